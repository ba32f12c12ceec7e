/- The marks that a law lays into a result, and their reading. -/
import Derived.Test.YtnaoomchekhcgaaDoorLaw2
namespace Go.Proofs.YtnaoomchekhcgaaDoor
open Go.RowKit
set_option maxRecDepth 100000
def marks (k n : Nat) : List Int := (List.range n).map fun i => ((k + i : Nat) : Int)
def mixed (xs : List Int) (k j : Nat) : List Int := (List.range j).map (fun i => ((k + i : Nat) : Int)) ++ xs.drop j
theorem mixed_zero (xs : List Int) (k : Nat) : mixed xs k 0 = xs := by simp [mixed]
theorem mixed_all {xs : List Int} {k n : Nat} (h : xs.length = n) : mixed xs k n = marks k n := by simp [mixed, marks, ← h]
theorem mixed_set {xs : List Int} {k j n : Nat} (h : xs.length = n) (hj : j < n) : (mixed xs k j).set j ((k + j : Nat) : Int) = mixed xs k (j + 1) := by
  unfold mixed
  rw [List.set_append_right _ _ (by simp), List.range_succ, List.map_append, List.append_assoc]
  congr 1
  simp only [List.length_map, List.length_range, Nat.sub_self, List.map_cons, List.map_nil]
  obtain ⟨y, ys, e⟩ : ∃ y ys, xs.drop j = y :: ys := by
    cases hd : xs.drop j with
    | nil => have := congrArg List.length hd; simp at this; omega
    | cons y ys => exact ⟨y, ys, rfl⟩
  have e2 : xs.drop (j + 1) = ys := by
    have : xs.drop (j + 1) = (xs.drop j).drop 1 := by rw [List.drop_drop]
    rw [this, e]; rfl
  rw [e, e2]; rfl
theorem marks_at {k n j : Nat} (h : j < n) : (marks k n).getD j 0 = ((k + j : Nat) : Int) := by simp [marks, List.getD, h]
theorem marks_len (k n : Nat) : (marks k n).length = n := by simp [marks]
theorem OwnI.form {w : World} {base n c : Nat} {A : Option Addr} {xs : List Int} (h : OwnI w base A n c xs) (hn : 0 < n) : ∃ g, A = some ⟨g, 0, none⟩ := by
  obtain ⟨g, cap, hv, _, _⟩ := World.ownsRow.form h hn
  simp only [Value.slice.injEq] at hv
  exact ⟨g, hv.1⟩
theorem OwnI.put {w : World} {base n c g : Nat} {xs : List Int} (h : OwnI w base (some ⟨g, 0, none⟩) n c xs) (j : Nat) (z : Int) :
    OwnI (w.setCell ⟨g, j, none⟩ (.int .i64 z)) base (some ⟨g, 0, none⟩) n c (xs.set j z) ∧ w.grownBy (w.setCell ⟨g, j, none⟩ (.int .i64 z)) (some g) := by
  have := World.ownsRow.stored h j (.int .i64 z)
  refine ⟨?_, this.2⟩
  unfold OwnI
  rw [List.map_set]
  exact this.1
theorem OwnI.of_blk {w : World} {g n : Nat} {L : List Int} (h : Blk w g 3 (L.map (Value.int .i64)).toArray) (hl : L.length = n) (hn : n ≤ 1048576) : OwnI w g (some ⟨g, 0, none⟩) n n L :=
  h.own (Nat.le_refl _) (by simp [hl]) (by unfold maxLen; omega)