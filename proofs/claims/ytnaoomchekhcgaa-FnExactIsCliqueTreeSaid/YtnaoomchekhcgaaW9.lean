/- Walks of chapter 9: models by intervals, in the program and in the reference. -/
import Derived.Test.YtnaoomchekhcgaaLaw
import Derived.Test.YtnaoomchekhcgaaPure9
namespace Go.Proofs.Ytnaoomchekhcgaa
open Go.RowKit

theorem within_any (n lo hi : Int) (w : World) : Calls Try.prog 83 #[.int .i64 n, .int .i64 lo, .int .i64 hi] w fun e w' => e = .returned (.bool (decide (lo ≤ n) && decide (n ≤ hi))) ∧ w = w' := by
  go_enter Try.func83, Try.ntmps83
  go_wp2
  all_goals (go_ret; simp [*])
  all_goals omega
theorem within_yes (n lo hi : Int) (w : World) (h : lo ≤ n ∧ n ≤ hi) : Calls Try.prog 83 #[.int .i64 n, .int .i64 lo, .int .i64 hi] w fun e w' => e = .returned (.bool true) ∧ w = w' :=
  (within_any n lo hi w).mono fun _ _ hh => ⟨by rw [hh.1]; simp [h], hh.2⟩
theorem within_no (n lo hi : Int) (w : World) (h : ¬ (lo ≤ n ∧ n ≤ hi)) : Calls Try.prog 83 #[.int .i64 n, .int .i64 lo, .int .i64 hi] w fun e w' => e = .returned (.bool false) ∧ w = w' :=
  (within_any n lo hi w).mono fun _ _ hh => ⟨by rw [hh.1]; simp; omega, hh.2⟩
theorem l1In_any (n lo hi : Int) (w : World) : Calls Try.prog 82 #[.int .i64 n, .int .i64 lo, .int .i64 hi] w fun e w' => e = .returned (.bool (decide (lo ≤ n) && decide (n ≤ hi))) ∧ w = w' := by
  go_enter Try.func82, Try.ntmps82
  go_wp2
  all_goals (go_ret; simp [*])
  all_goals omega
theorem l1In_yes (n lo hi : Int) (w : World) (h : lo ≤ n ∧ n ≤ hi) : Calls Try.prog 82 #[.int .i64 n, .int .i64 lo, .int .i64 hi] w fun e w' => e = .returned (.bool true) ∧ w' = w :=
  (l1In_any n lo hi w).mono fun _ _ hh => ⟨by rw [hh.1]; simp [h], hh.2.symm⟩
theorem l1In_no (n lo hi : Int) (w : World) (h : ¬ (lo ≤ n ∧ n ≤ hi)) : Calls Try.prog 82 #[.int .i64 n, .int .i64 lo, .int .i64 hi] w fun e w' => e = .returned (.bool false) ∧ w' = w :=
  (l1In_any n lo hi w).mono fun _ _ hh => ⟨by rw [hh.1]; simp; omega, hh.2.symm⟩

theorem boxed (w : World) {w1 : World} {T : TypeId} {cs : Array Value} {w0 : World} (hb : Below w0.heap.size w0 w1) (h : Blk w0 w.heap.size T cs) : Blk w1 w.heap.size T cs := h.up hb
theorem model_at {L R : List Int} (h : isModel L R = true) {n k : Nat} (hn : L.length = n) (hk : k < n) : 0 ≤ L[k]?.getD 0 ∧ L[k]?.getD 0 ≤ R[k]?.getD 0 ∧ R[k]?.getD 0 ≤ 99 :=
  mOk_iff.1 ((isModel_spec h).2.2.2 k (by omega))