/- Searches, plain: the first list, one vertex more at a time. No program in sight. -/
import Derived.Test.YtfodbgogeclifaaPure4
namespace Go.Proofs.Ytfodbgogeclifaa
/-- May v come next behind l? -/
def nextOk (may : List Nat → Bool) (l : List Nat) (v : Nat) : Bool := !decide (v ∈ l) && may (l ++ [v])
/-- f more vertices behind l. -/
def srch (may holds : List Nat → Bool) (N : Nat) : Nat → List Nat → Option (List Nat)
  | 0, l => if holds l then some l else none
  | f + 1, l => (List.range N).findSome? fun v => if nextOk may l v then srch may holds N f (l ++ [v]) else none
def srchAt (may holds : List Nat → Bool) (N f : Nat) (l : List Nat) (v : Nat) : Option (List Nat) := if nextOk may l v then srch may holds N f (l ++ [v]) else none
def srchK (may holds : List Nat → Bool) (N f : Nat) (l : List Nat) (k : Nat) : Option (List Nat) := (List.range k).findSome? (srchAt may holds N f l)
theorem srch_step (may holds : List Nat → Bool) (N f : Nat) (l : List Nat) : srch may holds N (f + 1) l = srchK may holds N f l N := rfl
theorem srchK_zero (may holds : List Nat → Bool) (N f : Nat) (l : List Nat) : srchK may holds N f l 0 = none := rfl
theorem srchK_succ (may holds : List Nat → Bool) (N f : Nat) (l : List Nat) (k : Nat) : srchK may holds N f l (k + 1) = (srchK may holds N f l k).or (srchAt may holds N f l k) := by
  rw [srchK, List.range_succ, List.findSome?_append]
  congr 1
  simp
theorem srchK_none {may holds : List Nat → Bool} {N f k : Nat} {l : List Nat} (h : srchK may holds N f l k = none) (h2 : srchAt may holds N f l k = none) : srchK may holds N f l (k + 1) = none := by rw [srchK_succ, h, h2]; rfl
theorem srchK_some {may holds : List Nat → Bool} {N f k : Nat} {l r : List Nat} (h : srchK may holds N f l k = none) (h2 : srchAt may holds N f l k = some r) (hk : k < N) : srch may holds N (f + 1) l = some r := by
  have key : ∀ j, k < j → srchK may holds N f l j = some r := by
    intro j hj
    induction j with
    | zero => omega
    | succ j ih =>
      rw [srchK_succ]
      rcases Nat.lt_succ_iff_lt_or_eq.1 hj with h' | rfl
      · rw [ih h']; rfl
      · rw [h, h2]; rfl
  exact key N hk
theorem srchAt_off {may holds : List Nat → Bool} {N f v : Nat} {l : List Nat} (h : nextOk may l v = false) : srchAt may holds N f l v = none := by rw [srchAt, h]; rfl
theorem srchAt_on {may holds : List Nat → Bool} {N f v : Nat} {l : List Nat} (h : nextOk may l v = true) : srchAt may holds N f l v = srch may holds N f (l ++ [v]) := by rw [srchAt, if_pos h]
/-- What is found has its length, its vertices, begins with l, and holds. -/
theorem srch_spec {may holds : List Nat → Bool} {N : Nat} : ∀ {f : Nat} {l r : List Nat}, srch may holds N f l = some r → r.length = l.length + f ∧ holds r = true ∧ ((∀ v ∈ l, v < N) → ∀ v ∈ r, v < N) ∧ (l.Nodup → r.Nodup) ∧ ((f = 0 → may l = true) → may r = true) := by
  intro f
  induction f with
  | zero =>
    intro l r h
    rw [srch] at h
    split at h
    · rename_i hh
      injection h with h
      subst h
      exact ⟨rfl, hh, id, id, fun h => h rfl⟩
    · cases h
  | succ f ih =>
    intro l r h
    rw [srch] at h
    obtain ⟨v, hv, h⟩ := List.exists_of_findSome?_eq_some h
    split at h
    · rename_i hh
      rw [nextOk, Bool.and_eq_true, Bool.not_eq_true', decide_eq_false_iff_not] at hh
      have := ih h
      refine ⟨by rw [this.1]; simp; omega, this.2.1, fun hl => this.2.2.1 fun x hx => ?_, fun hn => this.2.2.2.1 ?_, fun _ => this.2.2.2.2 fun _ => hh.2⟩
      · rcases List.mem_append.1 hx with hx | hx
        · exact hl x hx
        · obtain rfl : x = v := by simpa using hx
          exact List.mem_range.1 hv
      · rw [List.nodup_append]
        exact ⟨hn, by simp, fun a ha b hb e => by
          obtain rfl : b = v := by simpa using hb
          subst e
          exact hh.1 ha⟩
    · cases h
def yes (_ : List Nat) : Bool := true
theorem srch_yes {may : List Nat → Bool} {N : Nat} (l : List Nat) : srch may yes N 0 l = some l := rfl
end Go.Proofs.Ytfodbgogeclifaa
