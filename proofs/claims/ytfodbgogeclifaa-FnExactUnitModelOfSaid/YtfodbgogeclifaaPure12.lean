/- Chapter 12, plain: umbrella orders, the band. No program in sight. -/
import Derived.Test.YtfodbgogeclifaaPure4
namespace Go.Proofs.Ytfodbgogeclifaa
def edge (Q : List Nat) (a b : Nat) : Bool := (nb Q a).testBit b
theorem GOk.edge_comm {n : Nat} {Q : List Nat} (h : GOk n Q) (a b : Nat) : edge Q a b = edge Q b a := h.sym a b
def umbAt (Q o : List Nat) (i j k : Nat) : Bool := !edge Q (nb o i) (nb o k) || (edge Q (nb o i) (nb o j) && edge Q (nb o k) (nb o j))
/-- Between two neighbours all are neighbours of both. -/
def umb (Q o : List Nat) : Bool := (List.range o.length).all fun k => (List.range k).all fun j => (List.range j).all fun i => umbAt Q o i j k
theorem umb_iff {Q o : List Nat} : umb Q o = true ↔ ∀ k, k < o.length → ∀ j, j < k → ∀ i, i < j → umbAt Q o i j k = true := by
  simp only [umb, List.all_eq_true, List.mem_range]
theorem umb_true {Q o : List Nat} (h : ∀ i, i < o.length → ∀ k, k < o.length → ∀ j, i < j → j < k → umbAt Q o i j k = true) : umb Q o = true :=
  umb_iff.2 fun k hk j hj i hi => h i (by omega) k hk j hi hj
theorem umb_false {Q o : List Nat} {i j k : Nat} (hi : i < j) (hj : j < k) (hk : k < o.length) (h : umbAt Q o i j k = false) : umb Q o = false := by
  rw [← Bool.not_eq_true, umb_iff]
  intro e
  rw [e k hk j hj i hi] at h
  cases h
theorem umbAt_off {Q o : List Nat} {i j k : Nat} (h : edge Q (nb o i) (nb o k) = false) : umbAt Q o i j k = true := by rw [umbAt, h]; rfl
theorem umbAt_on {Q o : List Nat} {i j k : Nat} (h : edge Q (nb o i) (nb o k) = true) : umbAt Q o i j k = (edge Q (nb o i) (nb o j) && edge Q (nb o k) (nb o j)) := by rw [umbAt, h]; rfl
def isUmb (N : Int) (X l : List Int) : Bool := isOrder N X l && umb (X.map Int.toNat) (l.map Int.toNat)
theorem isUmb_no {N : Int} {X l : List Int} (h : isOrder N X l = false) : isUmb N X l = false := by rw [isUmb, h]; rfl
theorem nats_ints4 (Q : List Nat) : (ints Q).map Int.toNat = Q := by simp [ints, List.map_map, Function.comp_def]
theorem isUmb_ok {N : Int} {Q o : List Nat} (h : isOrder N (ints Q) (ints o) = true) : isUmb N (ints Q) (ints o) = umb Q o := by rw [isUmb, h, nats_ints4, nats_ints4]; rfl
/-- What an order is. -/
theorem isOrder_cases (N : Int) (X l : List Int) : isOrder N X l = false ∨ isOrder N X l = true ∧ ∃ (n : Nat) (Q o : List Nat), N = n ∧ X = ints Q ∧ l = ints o ∧ GOk n Q ∧ natVerts n o ∧ o.length = n := by
  rcases Bool.eq_false_or_eq_true (isOrder N X l) with h | h
  · refine .inr ⟨h, ?_⟩
    rw [isOrder, Bool.and_eq_true, isVerts, Bool.and_eq_true, decide_eq_true_eq, decide_eq_true_eq] at h
    obtain ⟨⟨hg, hv⟩, hl⟩ := h
    obtain ⟨n, Q, rfl, rfl, hk⟩ := isGraph_ok hg
    rw [ints_len, hk.len] at hv
    obtain ⟨o, rfl, ho⟩ := verts_nat hv
    rw [ints_len] at hl
    exact ⟨n, Q, o, rfl, rfl, rfl, hk, ho, by omega⟩
  · exact .inl h
end Go.Proofs.Ytfodbgogeclifaa
