/- Walks of chapter 10: sets that follow one another. Walks of chapter 10: the reference's search for orders of cliques. -/
import Derived.Test.YthncdjcmlpiebaaW12A
import Derived.Test.YthncdjcmlpiebaaPure10c
import Derived.Test.YthncdjcmlpiebaaW7A
import Derived.Test.YthncdjcmlpiebaaW6b
import Derived.Test.YthncdjcmlpiebaaW6
import Derived.Deep.LoopGhost
import Derived.Deep.RegionLaw
namespace Go.Proofs.Ythncdjcmlpiebaa
open Go.RowKit
theorem RI.ints_at {w : World} {A : Option Addr} {m k : Nat} {o : List Nat} (h : RI w A m (ints o)) (hk : k < m) : ∃ ad, A = some ad ∧ w.cell? (ad.add k) = some (.int .i64 (nb o k)) := by
  obtain ⟨a, e, _, hc⟩ := h.at_ hk
  rw [ints_nb] at hc
  exact ⟨a, e, hc⟩
end Go.Proofs.Ythncdjcmlpiebaa
namespace Go.Proofs.Ythncdjcmlpiebaa
open Go.RowKit
theorem head_nil {xs ys : List (List Nat)} (h : xs = []) : (xs ++ ys).head?.getD [] = ys.head?.getD [] := by rw [h]; rfl
theorem head_cons {xs ys : List (List Nat)} (h : 0 < xs.length) : (xs ++ ys).head?.getD [] = xs.head?.getD [] := by
  rcases xs with _ | ⟨a, t⟩
  · simp at h
  · rfl
theorem stepO {xs ys : List (List Nat)} {nk most r : Nat} (h : xs.length = nk) (hn : nk < most) (hr : r = most - nk) : nk + min ys.length r = min (xs ++ ys).length most := by
  rw [List.length_append, h, hr]; omega
/-- What the reference's search gives: the first order, and how many there are, up to most. -/
def GivesO (os : List (List Nat)) (most base : Nat) (w : World) (e : Ending) (w' : World) : Prop :=
  ∃ A c, e = .returned (.tuple #[.slice A (os.head?.getD []).length c, .int .i64 (min os.length most : Nat)]) ∧ OwnI w' base A (os.head?.getD []).length c (ints (os.head?.getD [])) ∧ Below w.heap.size w w'
def cliqOrds (N : Int) (X : List Int) : List (List Nat) := if (elimOf N X).isSome then ords (maxCliquesOf N X) (maxCliquesOf N X).length [] else []
theorem cliqOrds_no {N : Int} {X : List Int} (h : (elimOf N X).isSome = false) : cliqOrds N X = [] := by rw [cliqOrds, h]; rfl
theorem cliqOrds_yes {N : Int} {X : List Int} (h : (elimOf N X).isSome = true) : cliqOrds N X = ords (maxCliquesOf N X) (maxCliquesOf N X).length [] := by rw [cliqOrds, if_pos h]
/-- A chordal graph is a graph, and has cliques. -/
theorem chordal_cases {N : Int} {X : List Int} (h : (elimOf N X).isSome = true) : ∃ (n : Nat) (Q : List Nat), N = n ∧ X = ints Q ∧ GOk n Q ∧ maxCliquesOf N X = maxCliques Q n := by
  rcases isGraph_cases N X with hg | ⟨k, Q, rfl, rfl, hk⟩
  · rw [elimOf_no hg] at h; cases h
  · exact ⟨k, Q, rfl, rfl, hk, maxCliquesOf_ok hk⟩
theorem cliques_ok {N : Int} {X : List Int} (h : (elimOf N X).isSome = true) : (∀ x ∈ maxCliquesOf N X, x < 2 ^ 7) ∧ 0 < (maxCliquesOf N X).length ∧ (maxCliquesOf N X).length ≤ 128 := by
  obtain ⟨n, Q, rfl, rfl, hk, e⟩ := chordal_cases h
  rw [e]
  exact ⟨fun x hx => hk.n7 (maxCliques_lt hx), maxCliques_pos hk, maxCliques_len Q hk.le⟩
theorem implIsChordal_is {N : Int} {A : Option Addr} {n c : Nat} {X : List Int} {w : World} {b : Bool} (hX : RI w A n X) (hn : n ≤ 9223372036854775807) (hb : (elimOf N X).isSome = b) :
    Calls Try.prog 28 #[.agg #[.int .i64 N, .slice A n c]] w fun e w' => e = .returned (.bool b) ∧ Below w.heap.size w w' := by
  subst hb
  go_enter Try.func28, Try.ntmps28
  go_wp2_with fail
  refine (implEliminationOf_any N A n c X _ (hX.up (by go_grown)) hn).mono ?_
  rintro e w1 ⟨A1, c1, rfl, hown, hb1⟩
  have hU1 : Up w w1 := Up.then_ (by go_grown) hb1
  go_wp2
  go_ret
  exact ⟨rfl, hU1⟩
end Go.Proofs.Ythncdjcmlpiebaa
