/- Walks of chapter 2: a copy of a graph, an edge more. -/
import Derived.Test.YtnaoomchekhcgaaNat
import Derived.Test.YtnaoomchekhcgaaW3b
import Derived.Test.YtnaoomchekhcgaaW7c
import Derived.Test.YtnaoomchekhcgaaGives
import Derived.Test.YtnaoomchekhcgaaPure2b
namespace Go.Proofs.Ytnaoomchekhcgaa
open Go.RowKit
theorem Below.alloc_drew_ (W : World) (o : Obj) {w : World} (h : Below W.heap.size (W.alloc o).drew w) : Below W.heap.size W w := ((Below.refl W.heap.size W).alloc (Nat.le_refl _) o).drew.trans h
theorem add_0 (g k : Nat) : (⟨g, 0, none⟩ : Addr).add k = ⟨g, k, none⟩ := by unfold Addr.add; split <;> simp_all
theorem OwnI.nat {w : World} {base g n c k : Nat} {Q : List Nat} (h : OwnI w base (some ⟨g, 0, none⟩) n c (ints Q)) (hk : k < n) : w.cell? ⟨g, k, none⟩ = some (.int .i64 (nb Q k)) := by
  obtain ⟨ad, e, hc⟩ := h.ri.nb_at hk
  injection e with e
  subst e
  rw [add_0] at hc
  exact hc
theorem givesGB_of {w w' : World} {N : Int} {A : Option Addr} {n d base : Nat} {Q : List Nat} {b : Bool} (hl : Q.length = n) (hown : OwnI w' base A n d (ints Q)) (hbase : w.heap.size ≤ base) (hb : Below w.heap.size w w') :
    GivesGB N (ints Q) b w (.returned (.tuple #[.agg #[.int .i64 N, .slice A n d], .bool b])) w' := by
  subst hl
  have e := ints_len Q
  refine ⟨A, d, by rw [e], (hown.cast e.symm rfl).more hbase, hb⟩
theorem OwnI.putNat {w : World} {base g n c : Nat} {Q : List Nat} (h : OwnI w base (some ⟨g, 0, none⟩) n c (ints Q)) (k y : Nat) : OwnI (w.setCell ⟨g, k, none⟩ (.int .i64 (y : Int))) base (some ⟨g, 0, none⟩) n c (ints (Q.set k y)) := by
  have := (h.put k (y : Int)).1
  have e : (ints Q).set k (y : Int) = ints (Q.set k y) := by simp [ints]
  rw [e] at this
  exact this
theorem OwnI.frz {w : World} {base g n c : Nat} {xs : List Int} (h : OwnI w base (some ⟨g, 0, none⟩) n c xs) (k : Nat) : w.frozen? ⟨g, k, none⟩ = false := World.ownsRow.frozenAt h k