/- Walks of chapter 7: colorings; an edge read by the reference. -/
import Derived.Test.YtfodbgogeclifaaW7
namespace Go.Proofs.Ytfodbgogeclifaa
open Go.RowKit

def colPair (Q : List Nat) (C : List Int) (v x : Nat) : Bool := (nb Q v).testBit x && (C.getD x 0 == C.getD v 0)
def coloring (n : Nat) (Q : List Nat) (C : List Int) : Bool :=
  decide (∀ v, v < n → (0 ≤ C.getD v 0 ∧ C.getD v 0 ≤ 6) ∧ ∀ x, x < v → colPair Q C v x = false)
def isColoring (N : Int) (X C : List Int) : Bool := isGraph N X && (decide (C.length = X.length) && coloring X.length (X.map Int.toNat) C)
theorem isColoring_no {N : Int} {X C : List Int} (h : isGraph N X = false) : isColoring N X C = false := by rw [isColoring, h]; rfl
theorem isColoring_len {N : Int} {X C : List Int} (h : C.length ≠ X.length) : isColoring N X C = false := by
  rw [isColoring, decide_eq_false h]; simp
theorem nats_of (Q : List Nat) : (ints Q).map Int.toNat = Q := by simp [ints, List.map_map, Function.comp_def]
theorem isColoring_ok {n : Nat} {Q : List Nat} {C : List Int} (h : GOk n Q) (hl : C.length = n) : isColoring n (ints Q) C = coloring n Q C := by
  rw [isColoring, h.is, nats_of, ints_len, h.len, hl]; simp
theorem coloring_all {n : Nat} {Q : List Nat} {C : List Int} (h : ∀ v, v < n → (0 ≤ C.getD v 0 ∧ C.getD v 0 ≤ 6) ∧ ∀ x, x < v → colPair Q C v x = false) : coloring n Q C = true := decide_eq_true h
theorem coloring_out {n v : Nat} {Q : List Nat} {C : List Int} (hv : v < n) (h : ¬ (0 ≤ C.getD v 0 ∧ C.getD v 0 ≤ 6)) : coloring n Q C = false := decide_eq_false fun k => h (k v hv).1
theorem coloring_pair {n v x : Nat} {Q : List Nat} {C : List Int} (hv : v < n) (hx : x < v) (h : colPair Q C v x = true) : coloring n Q C = false :=
  decide_eq_false fun k => by have := (k v hv).2 x hx; rw [h] at this; cases this

theorem upk3 {w w' : World} (h : Up w w') {b : Addr} {j k : Nat} {u v : Value} (hl : b.block < w.heap.size) (hu : w.cell? (b.add k) = some u) (hv : w.cell? (b.add j) = some v) :
    Up w w' ∧ (∀ b o, b < w.heap.size → w'.cell? ⟨b, o, none⟩ = w.cell? ⟨b, o, none⟩) ∧ w'.cell? (b.add k) = some u ∧ w'.cell? (b.add j) = some v :=
  ⟨h, fun _ _ hb => h.cell hb, (h.cell (by rw [block_of_add]; exact hl)).trans hu, (h.cell (by rw [block_of_add]; exact hl)).trans hv⟩
theorem l2Edge_is {N : Int} {A : Option Addr} {n c v x : Nat} {Q : List Nat} {w : World} {b : Bool} (hX : RI w A n (ints Q)) (h : GOk n Q) (hv : v < n) (hx : x < n) (hb : (nb Q v).testBit x = b) :
    Calls Try.prog 76 #[.agg #[.int .i64 N, .slice A n c], .int .i64 v, .int .i64 x] w fun e w' => e = .returned (.bool b) ∧ Below w.heap.size w w' := by
  subst hb
  have hn7 := h.le
  obtain ⟨a, rfl, hca⟩ := hX.nb_after hv
  have hr := h.nb7 v
  have hbit := bit_one (nb Q v) x (by omega)
  go_enter Try.func76, Try.ntmps76
  go_wp2
  go_ret
  exact ⟨rfl, by go_grown⟩
