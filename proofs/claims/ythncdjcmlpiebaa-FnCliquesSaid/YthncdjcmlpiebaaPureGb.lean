/- The great law of cliques: what its callees' answers have to do with each other. No program in sight. -/
import Derived.Test.YthncdjcmlpiebaaPurG
import Derived.Test.YthncdjcmlpiebaaW7A
import Derived.Test.YthncdjcmlpiebaaW6A
namespace Go.Proofs.Ythncdjcmlpiebaa
open Go.RowKit
theorem colK_coloring {n : Nat} {Q o : List Nat} (h : GOk n Q) (ho : natVerts n o) (hl : o.length = n) : coloring n Q (ints (colK Q o n)) = true := by
  refine coloring_all fun v hv => ⟨?_, fun x hx => ?_⟩
  · rw [ints_nb]
    have := colK_low (Q := Q) ho hl h.le hv
    have := h.le
    omega
  · rw [colPair]
    rcases Bool.eq_false_or_eq_true ((nb Q v).testBit x) with e | e
    · have := colK_fine h ho hl hv (show x < n by omega) e
      rw [e, Bool.true_and, ints_nb, ints_nb]
      simp only [beq_eq_false_iff_ne, ne_eq]
      omega
    · rw [e]; rfl
/-- A colouring by an order is a colouring. -/
theorem colOf_coloring (N : Int) (X l : List Int) : colOf N X l = [] ∨ isColoring N X (colOf N X l) = true := by
  rcases isOrder_cases N X l with hg | ⟨hg, n, Q, o, rfl, rfl, rfl, h, ho, hl⟩
  · exact .inl (colOf_no hg)
  · refine .inr ?_
    rw [colOf_ok hg, hl, isColoring_ok h (by rw [ints_len, colK_len, hl])]
    exact colK_coloring h ho hl
theorem isOrder_of {n : Nat} {Q o : List Nat} (h : GOk n Q) (ho : natVerts n o) (hl : o.length = n) : isOrder n (ints Q) (ints o) = true := by
  rw [isOrder_yes]
  · rw [ints_len, hl]; simp
  · rw [isVerts_ok h]; exact decide_eq_true (nat_verts.2 ho)
theorem ints_rev (o : List Nat) : (ints o).reverse = ints o.reverse := by simp [ints]
/-- What a chordal graph's answers are. -/
theorem chordal_cliques {N : Int} {X : List Int} (hs : (elimOf N X).isSome = true) : isColoring N X (chordL N X) = true ∧ ((maxCliquesOf N X).length : Int) ≤ N ∧ ∀ v, v < (chordL N X).length → (chordL N X).getD v 0 < ofGraph N X (-1) cliqueNumber := by
  obtain ⟨o, he⟩ := Option.isSome_iff_exists.1 hs
  obtain ⟨n, Q, rfl, rfl, h⟩ : ∃ (k : Nat) (Q : List Nat), N = k ∧ X = ints Q ∧ GOk k Q := by
    rcases isGraph_cases N X with hg | hg
    · rw [elimOf_no hg] at he; cases he
    · exact hg
  have he' := he
  rw [elimOf_ok h] at he'
  obtain ⟨t, ht, hE⟩ := elimR_elim (full_lt h.le) he'
  rw [List.nil_append] at ht
  subst ht
  obtain ⟨ho, hl⟩ := hE.order
  have ho' : natVerts n o.reverse := ⟨fun x hx => ho.1 x (List.mem_reverse.1 hx), ((List.reverse_perm o).nodup_iff).2 ho.2⟩
  have hl' : o.reverse.length = n := by rw [List.length_reverse]; exact hl
  have hc : chordL n (ints Q) = ints (colK Q o.reverse n) := by
    rw [chordL, he]
    show colOf n (ints Q) (ints o).reverse = _
    rw [ints_rev, colOf_ok (isOrder_of h ho' hl'), hl']
  rw [hc]
  refine ⟨?_, ?_, fun v hv => ?_⟩
  · rw [isColoring_ok h (by rw [ints_len, colK_len, hl'])]
    exact colK_coloring h ho' hl'
  · rw [maxCliquesOf_ok h]
    have := maxCliques_few h hE
    omega
  · rw [ints_len, colK_len, hl'] at hv
    rw [ints_nb, ofGraph_ok h, cliqueNumber]
    have := elim_colors h hE hv
    omega
end Go.Proofs.Ythncdjcmlpiebaa
