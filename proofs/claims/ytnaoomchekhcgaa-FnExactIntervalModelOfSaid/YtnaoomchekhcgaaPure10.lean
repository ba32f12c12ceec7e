/- Chapter 10, plain: the model of an order of sets. No program in sight. -/
import Derived.Test.YtnaoomchekhcgaaPure3
namespace Go.Proofs.Ytnaoomchekhcgaa
/-- The first place before k whose set has v, -1 if there is none; the last one. -/
def fstB (o : List Nat) (v : Nat) : Nat → Int
  | 0 => -1
  | k + 1 => if fstB o v k < 0 ∧ (nb o k).testBit v = true then (k : Int) else fstB o v k
def lstB (o : List Nat) (v : Nat) : Nat → Int
  | 0 => -1
  | k + 1 => if (nb o k).testBit v then (k : Int) else lstB o v k
theorem fstB_cases (o : List Nat) (v : Nat) : ∀ k, (fstB o v k = -1 ∧ lstB o v k = -1 ∧ ∀ j, j < k → (nb o j).testBit v = false) ∨ ∃ i, i < k ∧ fstB o v k = (i : Int) ∧ (nb o i).testBit v = true ∧ (∀ j, j < i → (nb o j).testBit v = false) ∧ lstB o v (i + 1) = (i : Int)
  | 0 => .inl ⟨rfl, rfl, fun j hj => absurd hj (by omega)⟩
  | k + 1 => by
    rw [fstB, lstB]
    rcases fstB_cases o v k with ⟨h1, h2, h3⟩ | ⟨i, h1, h2, h3, h4, h5⟩
    · rcases Bool.eq_false_or_eq_true ((nb o k).testBit v) with e | e
      · rw [if_pos ⟨by omega, e⟩]
        exact .inr ⟨k, by omega, rfl, e, h3, by rw [lstB, if_pos e]⟩
      · rw [e, if_neg (by simp), h1, if_neg (by simp), h2]
        refine .inl ⟨rfl, rfl, fun j hj => ?_⟩
        rcases Nat.lt_succ_iff_lt_or_eq.1 hj with h' | rfl
        · exact h3 j h'
        · exact e
    · rw [if_neg (by omega)]
      exact .inr ⟨i, by omega, h2, h3, h4, h5⟩
theorem lstB_succ {o : List Nat} {v k : Nat} : lstB o v (k + 1) = if (nb o k).testBit v then (k : Int) else lstB o v k := rfl
theorem fstB_range (o : List Nat) (v k : Nat) : -1 ≤ fstB o v k ∧ fstB o v k < k := by
  rcases fstB_cases o v k with ⟨h, _⟩ | ⟨i, h1, h2, _⟩ <;> omega
theorem lstB_range (o : List Nat) (v : Nat) : ∀ k, -1 ≤ lstB o v k ∧ lstB o v k < k
  | 0 => by simp [lstB]
  | k + 1 => by
    have := lstB_range o v k
    rw [lstB]
    split <;> omega
/-- The arguments are right. -/
def moArg (l : List Int) (n : Int) : Bool := decide (1 ≤ n) && decide (n ≤ 7) && decide (1 ≤ l.length) && decide (l.length ≤ 20) && l.all fun x => decide (0 ≤ x) && decide (x < (2 ^ n.toNat : Nat))
def moAll (o : List Nat) : Nat → Bool
  | 0 => true
  | v + 1 => moAll o v && decide (0 ≤ fstB o v o.length)
def moF (o : List Nat) (k : Nat) : List Int := (List.range k).map fun v => fstB o v o.length
def moG (o : List Nat) (k : Nat) : List Int := (List.range k).map fun v => lstB o v o.length
theorem moF_succ (o : List Nat) (k : Nat) : moF o (k + 1) = moF o k ++ [fstB o k o.length] := by simp [moF, List.range_succ]
theorem moG_succ (o : List Nat) (k : Nat) : moG o (k + 1) = moG o k ++ [lstB o k o.length] := by simp [moG, List.range_succ]
theorem moF_len (o : List Nat) (k : Nat) : (moF o k).length = k := by simp [moF]
theorem moG_len (o : List Nat) (k : Nat) : (moG o k).length = k := by simp [moG]
theorem moAll_no {o : List Nat} {v : Nat} (h : fstB o v o.length < 0) : ∀ k, v < k → moAll o k = false
  | 0, hk => by omega
  | k + 1, hk => by
    rw [moAll]
    rcases Nat.lt_succ_iff_lt_or_eq.1 hk with h' | rfl
    · rw [moAll_no h k h']; rfl
    · rw [decide_eq_false (by omega)]; simp
def hasMo (l : List Int) (n : Int) : Bool := moArg l n && moAll (l.map Int.toNat) n.toNat
def moL (l : List Int) (n : Int) : List Int := if hasMo l n then moF (l.map Int.toNat) n.toNat else []
def moR (l : List Int) (n : Int) : List Int := if hasMo l n then moG (l.map Int.toNat) n.toNat else []
theorem mo_no {l : List Int} {n : Int} (h : hasMo l n = false) : moL l n = [] ∧ moR l n = [] := by rw [moL, moR, h]; exact ⟨rfl, rfl⟩
theorem hasMo_arg {l : List Int} {n : Int} (h : moArg l n = false) : hasMo l n = false := by rw [hasMo, h]; rfl
theorem moArg_spec {l : List Int} {n : Int} (h : moArg l n = true) : ∃ (k : Nat) (o : List Nat), n = k ∧ l = ints o ∧ 1 ≤ k ∧ k ≤ 7 ∧ 1 ≤ o.length ∧ o.length ≤ 20 ∧ ∀ j, nb o j < 2 ^ k := by
  simp only [moArg, Bool.and_eq_true, decide_eq_true_eq, List.all_eq_true] at h
  obtain ⟨⟨⟨⟨h1, h2⟩, h3⟩, h4⟩, h5⟩ := h
  have e : l = ints (l.map Int.toNat) := ints_nats fun i hi => (h5 _ (by simp [List.getD, List.getElem?_eq_getElem hi])).1
  refine ⟨n.toNat, l.map Int.toNat, by omega, e, by omega, by omega, by simpa using h3, by simpa using h4, fun j => ?_⟩
  rcases Nat.lt_or_ge j l.length with hj | hj
  · have := h5 l[j] (by simp)
    rw [nb]
    simp only [List.getD_eq_getElem?_getD, List.getElem?_map, List.getElem?_eq_getElem hj, Option.map_some, Option.getD_some]
    omega
  · rw [nb, getD_out (by simpa using hj)]; exact Nat.two_pow_pos _
theorem moArg_num {l : List Int} {n : Int} (h : ¬ (1 ≤ n ∧ n ≤ 7)) : moArg l n = false := by
  rw [← Bool.not_eq_true]
  simp only [moArg, Bool.and_eq_true, decide_eq_true_eq]
  exact fun e => h e.1.1.1
theorem moArg_len {l : List Int} {n : Int} (h : ¬ (1 ≤ (l.length : Int) ∧ (l.length : Int) ≤ 20)) : moArg l n = false := by
  rw [← Bool.not_eq_true]
  simp only [moArg, Bool.and_eq_true, decide_eq_true_eq]
  exact fun e => h ⟨by omega, by omega⟩
/-- A number that is no set of vertices. -/
def noSet (n : Nat) (x : Int) : Bool := !(decide (0 ≤ x) && decide (x < (2 ^ n : Nat)))
theorem moArg_any {l : List Int} {n : Nat} (h1 : 1 ≤ n) (h7 : n ≤ 7) (h2 : 1 ≤ l.length) (h20 : l.length ≤ 20) : moArg l n = !l.any (noSet n) := by
  rw [moArg, decide_eq_true (by omega), decide_eq_true (by omega), decide_eq_true h2, decide_eq_true h20]
  simp only [Bool.true_and, Int.toNat_natCast, noSet, List.not_any_eq_all_not, Bool.not_not]
theorem noSet_out {l : List Int} {n j : Nat} (hj : j < l.length) (h : noSet n (l.getD j 0) = true) : l.any (noSet n) = true :=
  List.any_eq_true.2 ⟨_, List.getElem_mem hj, by simpa [List.getD, List.getElem?_eq_getElem hj] using h⟩
theorem nats_intsM (Q : List Nat) : (ints Q).map Int.toNat = Q := by simp [ints, List.map_map, Function.comp_def]
theorem hasMo_ok {n : Nat} {o : List Nat} (h : moArg (ints o) n = true) : hasMo (ints o) n = moAll o n := by rw [hasMo, h, nats_intsM, Int.toNat_natCast]; rfl
theorem mo_ok {n : Nat} {o : List Nat} (h : moArg (ints o) n = true) (h2 : moAll o n = true) : moL (ints o) n = moF o n ∧ moR (ints o) n = moG o n ∧ hasMo (ints o) n = true := by
  have e : hasMo (ints o) n = true := by rw [hasMo_ok h, h2]
  rw [moL, moR, e, nats_intsM, Int.toNat_natCast]
  exact ⟨rfl, rfl, rfl⟩
theorem hasMo_out {n v : Nat} {o : List Nat} (h : moArg (ints o) n = true) (hv : v < n) (hf : fstB o v o.length < 0) : hasMo (ints o) n = false := by rw [hasMo_ok h, moAll_no hf n hv]
theorem moAll_yes {o : List Nat} : ∀ k, (∀ v, v < k → 0 ≤ fstB o v o.length) → moAll o k = true
  | 0, _ => rfl
  | k + 1, h => by rw [moAll, moAll_yes k fun v hv => h v (by omega), decide_eq_true (h k (by omega))]; rfl
theorem moL_len (l : List Int) (n : Int) : (moL l n).length ≤ 7 ∧ (moR l n).length ≤ 7 ∧ (moL l n).length = (moR l n).length := by
  rcases Bool.eq_false_or_eq_true (hasMo l n) with h | h
  · have h1 : moArg l n = true := by rw [hasMo, Bool.and_eq_true] at h; exact h.1
    obtain ⟨k, o, rfl, _, _, h7, _⟩ := moArg_spec h1
    rw [moL, moR, if_pos h, if_pos h, moF_len, moG_len, Int.toNat_natCast]
    exact ⟨h7, h7, rfl⟩
  · rw [(mo_no h).1, (mo_no h).2]; simp
end Go.Proofs.Ytnaoomchekhcgaa
