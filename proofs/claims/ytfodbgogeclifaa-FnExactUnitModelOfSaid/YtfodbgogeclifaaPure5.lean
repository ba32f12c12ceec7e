/- Chapters 5 and 6, plain: labels, the lexicographic order, elimination orders. No program in sight. -/
import Derived.Test.YtfodbgogeclifaaPure12
import Derived.Test.YtfodbgogeclifaaPure2b
namespace Go.Proofs.Ytfodbgogeclifaa
/-- The label of v: which of l are its neighbours, the first counts most. -/
def labL (Q : List Nat) (v : Nat) (l : List Nat) : Nat := l.foldl (fun a w => 2 * a + (edge Q v w).toNat) 0
theorem labL_snoc (Q : List Nat) (v : Nat) (l : List Nat) (w : Nat) : labL Q v (l ++ [w]) = 2 * labL Q v l + (edge Q v w).toNat := by simp [labL]
theorem take_snocN {l : List Nat} {k : Nat} (h : k < l.length) : l.take (k + 1) = l.take k ++ [nb l k] := by
  rw [List.take_succ_eq_append_getElem h]
  simp [nb, List.getD, List.getElem?_eq_getElem h]
theorem labL_take {Q : List Nat} {v : Nat} {l : List Nat} {k : Nat} (h : k < l.length) : labL Q v (l.take (k + 1)) = 2 * labL Q v (l.take k) + (edge Q v (nb l k)).toNat := by rw [take_snocN h, labL_snoc]
theorem labL_lt (Q : List Nat) (v : Nat) (l : List Nat) : ∀ k, k ≤ l.length → labL Q v (l.take k) < 2 ^ k
  | 0, _ => by simp [labL]
  | k + 1, hk => by
    have := labL_lt Q v l k (by omega)
    have h1 : (edge Q v (nb l k)).toNat ≤ 1 := by cases edge Q v (nb l k) <;> simp
    rw [labL_take (by omega), Nat.pow_succ]
    omega
theorem labL_small {Q : List Nat} {v : Nat} {l : List Nat} (h : l.length ≤ 7) : labL Q v l < 128 := by
  have := labL_lt Q v l l.length (Nat.le_refl _)
  rw [List.take_length] at this
  exact Nat.lt_of_lt_of_le this (Nat.pow_le_pow_right (n := 2) (by omega) h)
/-- The reference's: seven places. -/
def labK (Q o : List Nat) (v : Nat) : Nat → Nat
  | 0 => 0
  | i + 1 => labK Q o v i * 2 + if i < o.length ∧ edge Q (nb o i) v = true then 1 else 0
theorem labK_lt (Q o : List Nat) (v : Nat) : ∀ k, labK Q o v k < 2 ^ k
  | 0 => by simp [labK]
  | k + 1 => by
    have := labK_lt Q o v k
    rw [labK, Nat.pow_succ]
    split <;> omega
theorem labK_eq {n : Nat} {Q : List Nat} (h : GOk n Q) (o : List Nat) (v : Nat) : ∀ k, k ≤ o.length → labK Q o v k = labL Q v (o.take k)
  | 0, _ => by simp [labK, labL]
  | k + 1, hk => by
    rw [labK, labK_eq h o v k (by omega), labL_take (by omega), h.edge_comm (nb o k) v, Nat.mul_comm]
    cases edge Q v (nb o k) <;> simp <;> omega
theorem labK_more {n : Nat} {Q : List Nat} (h : GOk n Q) (o : List Nat) (v : Nat) : ∀ j, labK Q o v (o.length + j) = labL Q v o * 2 ^ j
  | 0 => by rw [Nat.add_zero, labK_eq h o v _ (Nat.le_refl _), List.take_length, Nat.pow_zero, Nat.mul_one]
  | j + 1 => by
    rw [← Nat.add_assoc, labK, labK_more h o v j, if_neg (by omega), Nat.pow_succ, Nat.add_zero, Nat.mul_assoc]
theorem labK_cmp {n : Nat} {Q : List Nat} (h : GOk n Q) {o : List Nat} (ho : o.length ≤ 7) (u v : Nat) : labK Q o u 7 < labK Q o v 7 ↔ labL Q u o < labL Q v o := by
  have e : 7 = o.length + (7 - o.length) := by omega
  rw [e, labK_more h, labK_more h]
  have := Nat.two_pow_pos (7 - o.length)
  constructor
  · intro hh
    exact Nat.lt_of_mul_lt_mul_right hh
  · intro hh
    exact Nat.mul_lt_mul_of_pos_right hh this
/-- The least vertex outside l whose label is greatest, among the first k; -1 if there is none. -/
def bestL (Q l : List Nat) : Nat → Int
  | 0 => -1
  | k + 1 => if k ∉ l ∧ (bestL Q l k < 0 ∨ labL Q (bestL Q l k).toNat l < labL Q k l) then (k : Int) else bestL Q l k
/-- The label that goes with it. -/
def mostL (Q l : List Nat) (b : Int) : Int := if b < 0 then -1 else (labL Q b.toNat l : Nat)
theorem bestL_cases (Q l : List Nat) : ∀ k, (bestL Q l k = -1 ∧ ∀ j, j < k → j ∈ l) ∨ ∃ b : Nat, b < k ∧ b ∉ l ∧ bestL Q l k = (b : Int)
  | 0 => .inl ⟨rfl, fun j hj => absurd hj (by omega)⟩
  | k + 1 => by
    rw [bestL]
    rcases bestL_cases Q l k with ⟨h1, h2⟩ | ⟨b, h1, h2, h3⟩
    · by_cases hm : k ∈ l
      · rw [if_neg fun h => h.1 hm]
        refine .inl ⟨h1, fun j hj => ?_⟩
        rcases Nat.lt_succ_iff_lt_or_eq.1 hj with h' | rfl
        · exact h2 j h'
        · exact hm
      · rw [if_pos ⟨hm, .inl (by omega)⟩]
        exact .inr ⟨k, by omega, hm, rfl⟩
    · by_cases hc : k ∉ l ∧ (bestL Q l k < 0 ∨ labL Q (bestL Q l k).toNat l < labL Q k l)
      · rw [if_pos hc]
        exact .inr ⟨k, by omega, hc.1, rfl⟩
      · rw [if_neg hc]
        exact .inr ⟨b, by omega, h2, h3⟩
theorem bestL_in {Q l : List Nat} {k : Nat} (h : k ∈ l) : bestL Q l (k + 1) = bestL Q l k := by rw [bestL, if_neg fun e => e.1 h]
theorem bestL_more {Q l : List Nat} {k : Nat} (h : k ∉ l) (hm : mostL Q l (bestL Q l k) < (labL Q k l : Int)) : bestL Q l (k + 1) = (k : Int) := by
  have hc : bestL Q l k < 0 ∨ labL Q (bestL Q l k).toNat l < labL Q k l := by
    unfold mostL at hm
    by_cases hb : bestL Q l k < 0
    · exact .inl hb
    · rw [if_neg hb] at hm
      exact .inr (by omega)
  rw [bestL, if_pos ⟨h, hc⟩]
theorem bestL_less {Q l : List Nat} {k : Nat} (hm : ¬ mostL Q l (bestL Q l k) < (labL Q k l : Int)) : bestL Q l (k + 1) = bestL Q l k := by
  rw [bestL, if_neg]
  rintro ⟨_, h⟩
  unfold mostL at hm
  rcases h with h | h
  · rw [if_pos h] at hm; omega
  · by_cases hb : bestL Q l k < 0
    · rw [if_pos hb] at hm; omega
    · rw [if_neg hb] at hm; omega
theorem mostL_nat (Q l : List Nat) (k : Nat) : mostL Q l (k : Int) = (labL Q k l : Nat) := by rw [mostL, if_neg (by omega), Int.toNat_natCast]
theorem mostL_neg (Q l : List Nat) : mostL Q l (-1) = -1 := rfl
/-- A list of different vertices that is not whole goes on. -/
theorem bestL_next {n : Nat} {l : List Nat} (Q : List Nat) (h : natVerts n l) (hl : l.length < n) : ∃ b : Nat, b < n ∧ b ∉ l ∧ bestL Q l n = (b : Int) ∧ natVerts n (l ++ [b]) := by
  rcases bestL_cases Q l n with ⟨_, h2⟩ | ⟨b, h1, h2, h3⟩
  · exfalso
    have key : ∀ (m : Nat) (l : List Nat), l.Nodup → (∀ j, j < m → j ∈ l) → m ≤ l.length := by
      intro m
      induction m with
      | zero => intro l _ _; omega
      | succ m ih =>
        intro l hn hm
        have := ih (l.erase m) (hn.erase m) (fun j hj => (List.mem_erase_of_ne (by omega)).2 (hm j (by omega)))
        rw [List.length_erase_of_mem (hm m (by omega))] at this
        have := List.length_pos_of_mem (hm m (by omega))
        omega
    have := key n l h.2 h2
    omega
  · refine ⟨b, h1, h2, h3, fun v hv => ?_, ?_⟩
    · rcases List.mem_append.1 hv with hv | hv
      · exact h.1 v hv
      · obtain rfl : v = b := by simpa using hv
        exact h1
    · rw [List.nodup_append]
      exact ⟨h.2, by simp, fun a ha c hc e => by
        obtain rfl : c = b := by simpa using hc
        subst e
        exact h2 ha⟩
/-- f vertices more. -/
def lexR (Q : List Nat) (n : Nat) : Nat → List Nat → List Nat
  | 0, l => l
  | f + 1, l => lexR Q n f (l ++ [(bestL Q l n).toNat])
theorem lexR_verts {Q : List Nat} {n : Nat} : ∀ {f : Nat} {l : List Nat}, natVerts n l → l.length + f = n → natVerts n (lexR Q n f l) ∧ (lexR Q n f l).length = n
  | 0, l, h, hl => ⟨h, by rw [lexR]; omega⟩
  | f + 1, l, h, hl => by
    obtain ⟨b, h1, h2, h3, h4⟩ := bestL_next Q h (by omega)
    rw [lexR, h3, Int.toNat_natCast]
    exact lexR_verts h4 (by simp; omega)
def lexOf (N : Int) (X : List Int) (s : Int) : Option (List Nat) := if isGraph N X = true ∧ 0 ≤ s ∧ s < N then some (lexR (X.map Int.toNat) N.toNat (N.toNat - 1) [s.toNat]) else none
theorem lexOf_no {N : Int} {X : List Int} {s : Int} (h : isGraph N X = false) : lexOf N X s = none := by rw [lexOf, if_neg fun e => by rw [h] at e; exact Bool.false_ne_true e.1]
theorem lexOf_out {N : Int} {X : List Int} {s : Int} (h : ¬ (0 ≤ s ∧ s < N)) : lexOf N X s = none := by rw [lexOf, if_neg fun e => h e.2]
theorem lexOf_ok {n s : Nat} {Q : List Nat} (h : GOk n Q) (hs : s < n) : lexOf n (ints Q) s = some (lexR Q n (n - 1) [s]) := by
  rw [lexOf, if_pos ⟨h.is, by omega, by omega⟩, nats_ints4, Int.toNat_natCast, Int.toNat_natCast]
theorem one_verts {n s : Nat} (h : s < n) : natVerts n [s] := ⟨fun v hv => by
    have e : v = s := by simpa using hv
    rw [e]; exact h, by simp⟩
theorem lexR_order {n s : Nat} {Q : List Nat} (h : GOk n Q) (hs : s < n) : natVerts n (lexR Q n (n - 1) [s]) ∧ (lexR Q n (n - 1) [s]).length = n :=
  lexR_verts (one_verts hs) (by have := h.pos; simp; omega)
/-- A list of vertices as a set. -/
def setN (l : List Nat) : Nat := setZ (ints l)
theorem setN_snoc (l : List Nat) (v : Nat) : setN (l ++ [v]) = setN l ||| 2 ^ v := by rw [setN, ints, List.map_append, List.map_cons, List.map_nil, setZ_snoc, Int.toNat_natCast]; rfl
theorem testBit_setN (l : List Nat) (i : Nat) : (setN l).testBit i = decide (i ∈ l) := by
  rw [Bool.eq_iff_iff, setN, testBit_setZ, decide_eq_true_eq]
  constructor
  · rintro ⟨v, hv, e⟩
    obtain ⟨x, hx, rfl⟩ := ints_mem.1 hv
    rw [Int.toNat_natCast] at e
    exact e ▸ hx
  · exact fun h => ⟨_, ints_mem'.2 h, Int.toNat_natCast _⟩
theorem setN_lt {n : Nat} {l : List Nat} (h : ∀ v ∈ l, v < n) : setN l < 2 ^ n := setZ_lt fun v hv => by
  obtain ⟨x, hx, rfl⟩ := ints_mem.1 hv
  have := h x hx
  omega
theorem setN_add {l : List Nat} {v : Nat} (h : v ∉ l) : setN l + 2 ^ v = setN (l ++ [v]) := by
  rw [setN_snoc, add_bit (by rw [testBit_setN, decide_eq_false h])]
/-- What stands behind place i. -/
theorem setN_drop {n i : Nat} {o : List Nat} (ho : natVerts n o) (hi : i < o.length) : setN (o.drop (i + 1)) + 2 ^ nb o i = setN (o.drop i) := by
  have e : o.drop i = nb o i :: o.drop (i + 1) := by
    rw [List.drop_eq_getElem_cons hi]
    simp [nb, List.getD, List.getElem?_eq_getElem hi]
  have hn : nb o i ∉ o.drop (i + 1) := by
    have := (List.drop_sublist i o).nodup ho.2
    rw [e, List.nodup_cons] at this
    exact this.1
  rw [add_bit (by rw [testBit_setN, decide_eq_false hn]), e]
  apply Nat.eq_of_testBit_eq
  intro j
  rw [testBit_or2, testBit_setN, testBit_setN, Bool.eq_iff_iff, Bool.or_eq_true, decide_eq_true_eq, decide_eq_true_eq, decide_eq_true_eq, List.mem_cons]
  constructor
  · rintro (h | h)
    · exact .inr h
    · exact .inl h.symm
  · rintro (h | h)
    · exact .inr h.symm
    · exact .inl h
theorem setN_all {n : Nat} {o : List Nat} (ho : natVerts n o) (hl : o.length = n) : setN o = 2 ^ n - 1 := by
  apply Nat.eq_of_testBit_eq
  intro j
  rw [testBit_setN, Nat.testBit_two_pow_sub_one]
  exact decide_eq_decide.2 ⟨fun h => ho.1 j h, fun h => ho.all hl h⟩
/-- v's place in an order. -/
def place (o : List Nat) (v : Nat) : Nat := o.idxOf v
theorem place_lt {o : List Nat} {v : Nat} (h : v ∈ o) : place o v < o.length := List.idxOf_lt_length_of_mem h
theorem place_at {o : List Nat} {v : Nat} (h : v ∈ o) : nb o (place o v) = v := by
  have h1 := place_lt h
  have : o[place o v] = v := List.getElem_idxOf h1
  rw [nb]; simp [List.getD, List.getElem?_eq_getElem h1, this]
theorem place_no {n : Nat} {o : List Nat} (ho : natVerts n o) {j v : Nat} (hv : v ∈ o) (hj : j < place o v) : nb o j ≠ v := fun e => by
  have := ho.inj (i := j) (j := place o v) (by have := place_lt hv; omega) (place_lt hv) (by rw [e, place_at hv])
  omega
theorem place_nb {n : Nat} {o : List Nat} (ho : natVerts n o) {j : Nat} (hj : j < o.length) : place o (nb o j) = j := by
  have hm := nb_mem hj
  exact (ho.inj (place_lt hm) hj (place_at hm))
/-- The neighbours of v behind it. -/
def ltr (Q o : List Nat) (v : Nat) : Nat := nb Q v &&& setN (o.drop (place o v))
theorem ltr_lt {n : Nat} {Q : List Nat} (h : GOk n Q) (o : List Nat) (v : Nat) : ltr Q o v < 2 ^ n := Nat.lt_of_le_of_lt Nat.and_le_left (h.lt v)
def laterOf (N : Int) (X l : List Int) (v : Int) : Nat := if isOrder N X l = true ∧ 0 ≤ v ∧ v < N then ltr (X.map Int.toNat) (l.map Int.toNat) v.toNat else 0
theorem laterOf_no {N : Int} {X l : List Int} {v : Int} (h : isOrder N X l = false) : laterOf N X l v = 0 := by rw [laterOf, if_neg fun e => by rw [h] at e; exact Bool.false_ne_true e.1]
theorem laterOf_out {N : Int} {X l : List Int} {v : Int} (h : ¬ (0 ≤ v ∧ v < N)) : laterOf N X l v = 0 := by rw [laterOf, if_neg fun e => h e.2]
theorem laterOf_ok {n v : Nat} {Q o : List Nat} (h : isOrder n (ints Q) (ints o) = true) (hv : v < n) : laterOf n (ints Q) (ints o) v = ltr Q o v := by
  rw [laterOf, if_pos ⟨h, by omega, by omega⟩, nats_ints4, nats_ints4, Int.toNat_natCast]
/-- Each vertex and the neighbours behind it are a clique. -/
def elimAll (Q o : List Nat) (n : Nat) : Bool := (List.range n).all fun v => clq Q (ltr Q o v)
def isElim (N : Int) (X l : List Int) : Bool := isOrder N X l && elimAll (X.map Int.toNat) (l.map Int.toNat) X.length
theorem isElim_no {N : Int} {X l : List Int} (h : isOrder N X l = false) : isElim N X l = false := by rw [isElim, h]; rfl
theorem isElim_ok {n : Nat} {Q o : List Nat} (h : isOrder n (ints Q) (ints o) = true) (hq : GOk n Q) : isElim n (ints Q) (ints o) = elimAll Q o n := by rw [isElim, h, nats_ints4, nats_ints4, ints_len, hq.len]; rfl
def notClq (Q o : List Nat) (x : Int) : Bool := !clq Q (ltr Q o x.toNat)
theorem elim_any {n : Nat} {Q o : List Nat} (ho : natVerts n o) (hl : o.length = n) : (!(ints o).any (notClq Q o)) = elimAll Q o n := by
  rw [Bool.eq_iff_iff, Bool.not_eq_true', ← Bool.not_eq_true, elimAll, List.any_eq_true, List.all_eq_true]
  constructor
  · intro h v hv
    have hm := ho.all hl (List.mem_range.1 hv)
    refine Classical.byContradiction fun hc => h ⟨(v : Int), ints_mem'.2 hm, ?_⟩
    rw [notClq, Int.toNat_natCast, Bool.not_eq_true']
    simpa using hc
  · rintro h ⟨x, hx, hc⟩
    obtain ⟨v, hv, rfl⟩ := ints_mem.1 hx
    rw [notClq, Int.toNat_natCast, h v (List.mem_range.2 (ho.1 v hv))] at hc
    cases hc
theorem elimAll_no {Q o : List Nat} {n v : Nat} (hv : v < n) (h : clq Q (ltr Q o v) = false) : elimAll Q o n = false := by
  rw [← Bool.not_eq_true, elimAll, List.all_eq_true]
  intro e
  rw [e v (List.mem_range.2 hv)] at h
  cases h
theorem elim_all {Q o : List Nat} {n : Nat} (h : ∀ v, v < n → clq Q (ltr Q o v) = true) : elimAll Q o n = true := by
  rw [elimAll, List.all_eq_true]
  exact fun v hv => h v (List.mem_range.1 hv)
def isLexElim (N : Int) (X : List Int) (s : Int) : Bool := match lexOf N X s with
  | some o => isElim N X (ints o).reverse
  | none => false
theorem isLexElim_none {N : Int} {X : List Int} {s : Int} (h : lexOf N X s = none) : isLexElim N X s = false := by rw [isLexElim, h]
theorem isLexElim_some {N : Int} {X : List Int} {s : Int} {o : List Nat} (h : lexOf N X s = some o) : isLexElim N X s = isElim N X (ints o).reverse := by rw [isLexElim, h]
theorem lexOf_cases (N : Int) (X : List Int) (s : Int) : (lexOf N X s = none ∧ (isGraph N X = false ∨ isGraph N X = true ∧ ¬ (0 ≤ s ∧ s < N))) ∨ ∃ (n t : Nat) (Q : List Nat), N = n ∧ X = ints Q ∧ s = t ∧ GOk n Q ∧ t < n := by
  rcases isGraph_cases5 N X with h | ⟨n, Q, rfl, rfl, h⟩
  · exact .inl ⟨lexOf_no h, .inl h⟩
  · by_cases hs : 0 ≤ s ∧ s < (n : Int)
    · exact .inr ⟨n, s.toNat, Q, rfl, rfl, by omega, h, by omega⟩
    · exact .inl ⟨lexOf_out hs, .inr ⟨h.is, hs⟩⟩
where
  isGraph_cases5 (N : Int) (X : List Int) : isGraph N X = false ∨ ∃ (k : Nat) (Q : List Nat), N = k ∧ X = ints Q ∧ GOk k Q := by
    rcases Bool.eq_false_or_eq_true (isGraph N X) with h | h
    · exact .inr (isGraph_ok h)
    · exact .inl h
end Go.Proofs.Ytfodbgogeclifaa
