/- Chapter 8, plain: the clique tree, grown by the clique that has most in common with a bag. No program in sight. -/
import Derived.Test.YtnaoomchekhcgaaPure10c
namespace Go.Proofs.Ytnaoomchekhcgaa
/-- What is best so far: a clique, its parent's place, how many vertices they have in common. -/
abbrev Best := Option (Nat × Nat × Nat)
def mostB : Best → Int
  | none => -1
  | some s => (s.2.2 : Nat)
def cliqB (z : Int) : Best → Int
  | none => z
  | some s => (s.1 : Nat)
def parB (z : Int) : Best → Int
  | none => z
  | some s => (s.2.1 : Nat)
def comm (L bags : List Nat) (i k : Nat) : Nat := card (nb L k &&& nb bags i)
def pickB (L bags : List Nat) (i : Nat) (st : Best) (k : Nat) : Best := if !decide (nb L k ∈ bags) && decide (mostB st < (comm L bags i k : Nat)) then some (nb L k, i, comm L bags i k) else st
theorem pickB_in {L bags : List Nat} {i k : Nat} {st : Best} (h : decide (nb L k ∈ bags) = true) : pickB L bags i st k = st := by rw [pickB, h]; rfl
theorem pickB_few {L bags : List Nat} {i k : Nat} {st : Best} (h : ¬ mostB st < (comm L bags i k : Nat)) : pickB L bags i st k = st := by rw [pickB, decide_eq_false h, Bool.and_false]; rfl
theorem pickB_new {L bags : List Nat} {i k : Nat} {st : Best} (h : decide (nb L k ∈ bags) = false) (h2 : mostB st < (comm L bags i k : Nat)) : pickB L bags i st k = some (nb L k, i, comm L bags i k) := by rw [pickB, h, decide_eq_true h2]; rfl
def rowB (L bags : List Nat) (i : Nat) (st : Best) : Nat → Best
  | 0 => st
  | k + 1 => pickB L bags i (rowB L bags i st k) k
def allB (L bags : List Nat) : Nat → Best
  | 0 => none
  | i + 1 => rowB L bags i (allB L bags i) L.length
theorem pickB_some {L bags : List Nat} {i k : Nat} {st : Best} (h : st.isSome = true) : (pickB L bags i st k).isSome = true := by
  rw [pickB]; split
  · rfl
  · exact h
theorem rowB_some {L bags : List Nat} {i : Nat} {st : Best} (h : st.isSome = true) : ∀ k, (rowB L bags i st k).isSome = true
  | 0 => h
  | k + 1 => pickB_some (rowB_some h k)
theorem rowB_found {L bags : List Nat} {i j : Nat} {st : Best} (hj : nb L j ∉ bags) : ∀ k, j < k → (rowB L bags i st k).isSome = true
  | 0, h => by omega
  | k + 1, h => by
    rw [rowB]
    rcases Nat.lt_succ_iff_lt_or_eq.1 h with h' | rfl
    · exact pickB_some (rowB_found hj k h')
    · rcases hs : rowB L bags i st j with _ | s
      · rw [pickB, decide_eq_false hj, decide_eq_true (show mostB none < (comm L bags i j : Nat) by show (-1 : Int) < _; omega)]; rfl
      · exact pickB_some rfl
theorem allB_found {L bags : List Nat} {j : Nat} (hj : nb L j ∉ bags) (hjl : j < L.length) : ∀ i, 0 < i → (allB L bags i).isSome = true
  | 0, h => by omega
  | i + 1, _ => by rw [allB]; exact rowB_found hj _ hjl
theorem pickB_mem {L bags : List Nat} {i k : Nat} {st : Best} {s : Nat × Nat × Nat} (hk : k < L.length) (hst : ∀ s, st = some s → s.1 ∈ L ∧ s.2.1 < bags.length) (hi : i < bags.length) (h : pickB L bags i st k = some s) : s.1 ∈ L ∧ s.2.1 < bags.length := by
  rw [pickB] at h
  split at h
  · injection h with h
    subst h
    refine ⟨?_, hi⟩
    have e : nb L k = L[k] := by simp [nb, List.getD, List.getElem?_eq_getElem hk]
    show nb L k ∈ L
    rw [e]; exact List.getElem_mem hk
  · exact hst s h
theorem rowB_mem {L bags : List Nat} {i : Nat} {st : Best} (hst : ∀ s, st = some s → s.1 ∈ L ∧ s.2.1 < bags.length) (hi : i < bags.length) : ∀ k, k ≤ L.length → ∀ s, rowB L bags i st k = some s → s.1 ∈ L ∧ s.2.1 < bags.length
  | 0, _, s, h => hst s h
  | k + 1, hk, s, h => pickB_mem (by omega) (rowB_mem hst hi k (by omega)) hi h
theorem allB_mem {L bags : List Nat} : ∀ i, i ≤ bags.length → ∀ s, allB L bags i = some s → s.1 ∈ L ∧ s.2.1 < bags.length
  | 0, _, s, h => by cases h
  | i + 1, hi, s, h => rowB_mem (allB_mem i (by omega)) (by omega) _ (Nat.le_refl _) s h
/-- The tree behind m steps. -/
def ctB (L : List Nat) : Nat → List Nat × List Int
  | 0 => ([nb L 0], [-1])
  | m + 1 => match allB L (ctB L m).1 (ctB L m).1.length with
    | some s => ((ctB L m).1 ++ [s.1], (ctB L m).2 ++ [(s.2.1 : Int)])
    | none => ctB L m
theorem ctB_step {L : List Nat} {m : Nat} {s : Nat × Nat × Nat} (h : allB L (ctB L m).1 (ctB L m).1.length = some s) : ctB L (m + 1) = ((ctB L m).1 ++ [s.1], (ctB L m).2 ++ [(s.2.1 : Int)]) := by rw [ctB, h]
theorem fresh_exists {L bags : List Nat} (hL : L.Nodup) (h : bags.length < L.length) : ∃ j, j < L.length ∧ nb L j ∉ bags := by
  refine Classical.byContradiction fun hno => ?_
  have hs : L ⊆ bags := by
    intro x hx
    obtain ⟨j, hj, rfl⟩ := List.mem_iff_getElem.1 hx
    have e : nb L j = L[j] := by simp [nb, List.getD, List.getElem?_eq_getElem hj]
    rw [← e]
    exact Classical.byContradiction fun hn => hno ⟨j, hj, hn⟩
  have := hL.length_le_of_subset hs
  omega
theorem ctB_spec {L : List Nat} (hL : L.Nodup) {b : Nat} (hb : 0 < b) (hlt : ∀ x ∈ L, x < b) : ∀ m, m + 1 ≤ L.length → (ctB L m).1.length = m + 1 ∧ (ctB L m).2.length = m + 1 ∧ (∀ x ∈ (ctB L m).1, x < b) ∧ ∃ s, m + 1 < L.length → allB L (ctB L m).1 (ctB L m).1.length = some s
  | 0, h => by
    refine ⟨rfl, rfl, ?_, ?_⟩
    · intro x hx
      have : x = nb L 0 := by simpa [ctB] using hx
      rw [this]; exact nb_lt_all hb hlt 0
    · by_cases h1 : 1 < L.length
      · obtain ⟨j, hj, hn⟩ := fresh_exists (bags := [nb L 0]) hL h1
        have := allB_found hn hj (ctB L 0).1.length (by simp [ctB])
        rcases hs : allB L (ctB L 0).1 (ctB L 0).1.length with _ | s
        · rw [show allB L [nb L 0] (ctB L 0).1.length = none from hs] at this; cases this
        · exact ⟨s, fun _ => rfl⟩
      · exact ⟨(0, 0, 0), fun h2 => absurd h2 (by omega)⟩
  | m + 1, h => by
    obtain ⟨h1, h2, h3, s, h4⟩ := ctB_spec hL hb hlt m (by omega)
    have hs := h4 (by omega)
    have hmem := allB_mem _ (Nat.le_refl _) s hs
    have e := ctB_step hs
    have hl1 : (ctB L (m + 1)).1.length = m + 1 + 1 := by rw [e]; simp [h1]
    refine ⟨hl1, by rw [e]; simp [h2], ?_, ?_⟩
    · rw [e]
      intro x hx
      rcases List.mem_append.1 hx with hx | hx
      · exact h3 x hx
      · have : x = s.1 := by simpa using hx
        rw [this]; exact hlt _ hmem.1
    · by_cases h5 : m + 1 + 1 < L.length
      · obtain ⟨j, hj, hn⟩ := fresh_exists (bags := (ctB L (m + 1)).1) hL (by omega)
        have := allB_found hn hj (ctB L (m + 1)).1.length (by omega)
        rcases hs : allB L (ctB L (m + 1)).1 (ctB L (m + 1)).1.length with _ | s
        · rw [hs] at this; cases this
        · exact ⟨s, fun _ => rfl⟩
      · exact ⟨(0, 0, 0), fun h6 => absurd h6 (by omega)⟩
end Go.Proofs.Ytnaoomchekhcgaa
