/- The marks that a law lays into a result, and their reading. -/
import Derived.Test.YtfodbgogeclifaaLaw2
namespace Go.Proofs.Ytfodbgogeclifaa
open Go.RowKit
set_option maxRecDepth 100000
def marks (k n : Nat) : List Int := (List.range n).map fun i => ((k + i : Nat) : Int)
def mixed (xs : List Int) (k j : Nat) : List Int := (List.range j).map (fun i => ((k + i : Nat) : Int)) ++ xs.drop j
theorem mixed_zero (xs : List Int) (k : Nat) : mixed xs k 0 = xs := by simp [mixed]
theorem mixed_all {xs : List Int} {k n : Nat} (h : xs.length = n) : mixed xs k n = marks k n := by simp [mixed, marks, ← h]
theorem mixed_set {xs : List Int} {k j n : Nat} (h : xs.length = n) (hj : j < n) : (mixed xs k j).set j ((k + j : Nat) : Int) = mixed xs k (j + 1) := by
  unfold mixed
  rw [List.set_append_right _ _ (by simp), List.range_succ, List.map_append, List.append_assoc]
  congr 1
  simp only [List.length_map, List.length_range, Nat.sub_self, List.map_cons, List.map_nil]
  obtain ⟨y, ys, e⟩ : ∃ y ys, xs.drop j = y :: ys := by
    cases hd : xs.drop j with
    | nil => have := congrArg List.length hd; simp at this; omega
    | cons y ys => exact ⟨y, ys, rfl⟩
  have e2 : xs.drop (j + 1) = ys := by
    have : xs.drop (j + 1) = (xs.drop j).drop 1 := by rw [List.drop_drop]
    rw [this, e]; rfl
  rw [e, e2]; rfl
theorem marks_at {k n j : Nat} (h : j < n) : (marks k n).getD j 0 = ((k + j : Nat) : Int) := by simp [marks, List.getD, h]
theorem marks_len (k n : Nat) : (marks k n).length = n := by simp [marks]
theorem OwnI.form {w : World} {base n c : Nat} {A : Option Addr} {xs : List Int} (h : OwnI w base A n c xs) (hn : 0 < n) : ∃ g, A = some ⟨g, 0, none⟩ := by
  obtain ⟨g, cap, hv, _, _⟩ := World.ownsRow.form h hn
  simp only [Value.slice.injEq] at hv
  exact ⟨g, hv.1⟩
theorem OwnI.put {w : World} {base n c g : Nat} {xs : List Int} (h : OwnI w base (some ⟨g, 0, none⟩) n c xs) (j : Nat) (z : Int) :
    OwnI (w.setCell ⟨g, j, none⟩ (.int .i64 z)) base (some ⟨g, 0, none⟩) n c (xs.set j z) ∧ w.grownBy (w.setCell ⟨g, j, none⟩ (.int .i64 z)) (some g) := by
  have := World.ownsRow.stored h j (.int .i64 z)
  refine ⟨?_, this.2⟩
  unfold OwnI
  rw [List.map_set]
  exact this.1
theorem OwnI.of_blk {w : World} {g n : Nat} {L : List Int} (h : Blk w g 3 (L.map (Value.int .i64)).toArray) (hl : L.length = n) (hn : n ≤ 1048576) : OwnI w g (some ⟨g, 0, none⟩) n n L :=
  h.own (Nat.le_refl _) (by simp [hl]) (by unfold maxLen; omega)
set_option maxHeartbeats 1000000 in
theorem markIntS_any (A : Option Addr) (n c k base : Nat) (xs : List Int) (w : World) (h : OwnI w base A n c xs) (hk : k ≤ 4194304) (hn : n ≤ 1048576) :
    Calls Try.prog 20 #[.slice A n c, .int .i64 k] w fun e w' => e = .returned (.int .i64 ((k + n : Nat) : Int)) ∧ OwnI w' base A n c (marks k n) ∧ w.grownBy w' (Value.slice A n c).ownBlock := by
  have HL := Lib.hid h.len
  go_enter Try.func20, Try.ntmps20
  go_wp2
  go_loopw [1, 5] (fun q i wr => ∃ j : Nat, j ≤ n ∧ i = .int .i64 j ∧ q = .int .i64 ((k + j : Nat) : Int) ∧ OwnI wr base A n c (mixed xs k j) ∧ w.grownBy wr (Value.slice A n c).ownBlock) (fun _ i _ => n - (intOf i).toNat)
  case atStart => exact ⟨0, Nat.zero_le _, rfl, rfl, by rw [mixed_zero]; exact h, World.grownBy.refl _ _⟩
  case round =>
    obtain ⟨j, hj, rfl, rfl, hown, hg⟩ := hrel
    by_cases hlt : j < n
    · obtain ⟨g, rfl⟩ := hown.form (by omega)
      have hput := hown.put j ((k + j : Nat) : Int)
      rw [mixed_set HL.out hlt] at hput
      obtain ⟨hp1, hp2⟩ := hput
      have hcell : (wr.cell? ⟨g, j, none⟩).isSome = true := by
        rw [World.ownsRow.cellAt hown j (by omega)]
        have := hown.len
        simp [this, hlt]
      obtain ⟨old, hold⟩ := Option.isSome_iff_exists.1 hcell
      clear hcell
      have hfz := World.ownsRow.frozenAt hown j
      go_wp2
      go_roundw
      case rel => exact ⟨j + 1, by omega, by go_num, by go_num, hp1, hg.trans hp2⟩
      case measure => simp [intOf]; omega
    · obtain rfl : j = n := by omega
      rw [mixed_all HL.out] at hown
      go_wp2
      go_ret
      exact ⟨rfl, hown, hg⟩
set_option maxHeartbeats 1000000 in
theorem heldIntS_any (A : Option Addr) (n c k : Nat) (w : World) (h : RI w A n (marks k n)) (hk : k ≤ 4194304) (hn : n ≤ 1048576) :
    Calls Try.prog 29 #[.slice A n c, .int .i64 k] w fun e w' => e = .returned (.int .i64 ((k + n : Nat) : Int)) ∧ Below w.heap.size w w' := by
  go_enter Try.func29, Try.ntmps29
  go_wp2
  go_loop [1, 5] (fun q i => ∃ j : Nat, j ≤ n ∧ i = .int .i64 j ∧ q = .int .i64 ((k + j : Nat) : Int)) (fun _ i => n - (intOf i).toNat)
  case atStart => exact ⟨0, Nat.zero_le _, rfl, rfl⟩
  case round =>
    obtain ⟨j, hj, rfl, rfl⟩ := hrel
    by_cases hlt : j < n
    · obtain ⟨ad, rfl, _, hc⟩ := h.at_ hlt
      rw [marks_at hlt] at hc
      go_wp2
      go_round
      case rel => exact ⟨j + 1, by omega, by go_num, by go_num⟩
      case measure => simp [intOf]; omega
    · obtain rfl : j = n := by omega
      go_wp2
      go_ret
      exact ⟨rfl, by go_grown⟩
theorem markGraph_any (N : Int) (A : Option Addr) (n c k base : Nat) (xs : List Int) (w : World) (h : OwnI w base A n c xs) (hk : k ≤ 4194304) (hn : n ≤ 1048576) :
    Calls Try.prog 39 #[.agg #[.int .i64 N, .slice A n c], .int .i64 k] w fun e w' => e = .returned (.int .i64 ((k + n : Nat) : Int)) ∧ w.grownBy w' (Value.slice A n c).ownBlock := by
  go_enter Try.func39, Try.ntmps39
  go_wp2_with fail
  refine (markIntS_any A n c k base xs _ (h.alloc _) hk hn).mono ?_
  rintro e w1 ⟨rfl, hown, hg⟩
  have hgg := (World.grownBy_alloc w (.cells #[.int .i64 N, .slice A n c] 45) (Value.slice A n c).ownBlock).trans hg
  go_wp2
  go_ret
  exact ⟨rfl, hgg⟩
end Go.Proofs.Ytfodbgogeclifaa
