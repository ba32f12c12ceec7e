/- Walks of chapter 2: graphs, in the program and in the reference. -/
import Derived.Test.YtnaoomchekhcgaaDoorLaw
import Derived.Test.YtnaoomchekhcgaaDoorPure3
import Derived.Deep.RegionHeld3
namespace Go.Proofs.YtnaoomchekhcgaaDoor
open Go.RowKit

theorem RI.nb_at {w : World} {A : Option Addr} {n k : Nat} {Q : List Nat} (h : RI w A n (ints Q)) (hk : k < n) : ∃ ad, A = some ad ∧ w.cell? (ad.add k) = some (.int .i64 (nb Q k)) := by
  obtain ⟨ad, e, _, hc⟩ := h.at_ hk
  rw [ints_nb] at hc
  exact ⟨ad, e, hc⟩
theorem RI.nb_after {w : World} {A : Option Addr} {n k : Nat} {Q : List Nat} (h : RI w A n (ints Q)) (hk : k < n) : ∃ ad, A = some ad ∧ ∀ o, (w.alloc o).cell? (ad.add k) = some (.int .i64 (nb Q k)) := by
  obtain ⟨ad, e, hc⟩ := h.after hk
  rw [ints_nb] at hc
  exact ⟨ad, e, hc⟩
theorem p2_small {k r : Nat} (hk : k ≤ 7) (h : r < 2 ^ k) : r < 9223372036854775808 := Nat.lt_trans h (pow_small hk)
where pow_small {k : Nat} (hk : k ≤ 7) : 2 ^ k < 9223372036854775808 := Nat.lt_of_le_of_lt (Nat.pow_le_pow_right (by omega) hk) (by decide)
theorem within_any (n lo hi : Int) (w : World) : Calls Tryd.prog 30 #[.int .i64 n, .int .i64 lo, .int .i64 hi] w fun e w' => e = .returned (.bool (decide (lo ≤ n) && decide (n ≤ hi))) ∧ w = w' := by
  go_enter Tryd.func30, Tryd.ntmps30
  go_wp2
  all_goals (go_ret; simp [*])
  all_goals omega
theorem within_yes (n lo hi : Int) (w : World) (h : lo ≤ n ∧ n ≤ hi) : Calls Tryd.prog 30 #[.int .i64 n, .int .i64 lo, .int .i64 hi] w fun e w' => e = .returned (.bool true) ∧ w = w' :=
  (within_any n lo hi w).mono fun _ _ hh => ⟨by rw [hh.1]; simp [h], hh.2⟩
theorem within_no (n lo hi : Int) (w : World) (h : ¬ (lo ≤ n ∧ n ≤ hi)) : Calls Tryd.prog 30 #[.int .i64 n, .int .i64 lo, .int .i64 hi] w fun e w' => e = .returned (.bool false) ∧ w = w' :=
  (within_any n lo hi w).mono fun _ _ hh => ⟨by rw [hh.1]; simp; omega, hh.2⟩
theorem l1In_any (n lo hi : Int) (w : World) : Calls Tryd.prog 27 #[.int .i64 n, .int .i64 lo, .int .i64 hi] w fun e w' => e = .returned (.bool (decide (lo ≤ n) && decide (n ≤ hi))) ∧ w = w' := by
  go_enter Tryd.func27, Tryd.ntmps27
  go_wp2
  all_goals (go_ret; simp [*])
  all_goals omega
theorem l1In_yes (n lo hi : Int) (w : World) (h : lo ≤ n ∧ n ≤ hi) : Calls Tryd.prog 27 #[.int .i64 n, .int .i64 lo, .int .i64 hi] w fun e w' => e = .returned (.bool true) ∧ w' = w :=
  (l1In_any n lo hi w).mono fun _ _ hh => ⟨by rw [hh.1]; simp [h], hh.2.symm⟩
theorem l1In_no (n lo hi : Int) (w : World) (h : ¬ (lo ≤ n ∧ n ≤ hi)) : Calls Tryd.prog 27 #[.int .i64 n, .int .i64 lo, .int .i64 hi] w fun e w' => e = .returned (.bool false) ∧ w' = w :=
  (l1In_any n lo hi w).mono fun _ _ hh => ⟨by rw [hh.1]; simp; omega, hh.2.symm⟩
theorem l1In_eq {n lo hi : Int} {w : World} (h : lo ≤ n ∧ n ≤ hi) : Calls Tryd.prog 27 #[.int .i64 n, .int .i64 lo, .int .i64 hi] w fun e w' => e = .returned (.bool true) ∧ w = w' :=
  (l1In_any n lo hi w).mono fun _ _ hh => ⟨by rw [hh.1]; simp [h], hh.2⟩
theorem has_nat (s v : Nat) (w : World) (hs : s < 9223372036854775808) (hv : v ≤ 62) : Calls Tryd.prog 38 #[.int .i64 s, .int .i64 v] w fun e w' => e = .returned (.bool (s.testBit v)) ∧ w = w' := by
  have hb := bit_one s v hs
  go_enter Tryd.func38, Tryd.ntmps38
  go_wp2
  go_ret
  exact ⟨rfl, rfl⟩
theorem has_is {s v : Nat} {w : World} {b : Bool} (hs : s < 9223372036854775808) (hv : v ≤ 62) (h : s.testBit v = b) : Calls Tryd.prog 38 #[.int .i64 s, .int .i64 v] w fun e w' => e = .returned (.bool b) ∧ w' = w :=
  (has_nat s v w hs hv).mono fun _ _ hh => ⟨by rw [hh.1, h], hh.2.symm⟩
theorem has_eq {s v : Nat} {w : World} {b : Bool} (hs : s < 9223372036854775808) (hv : v ≤ 62) (h : s.testBit v = b) : Calls Tryd.prog 38 #[.int .i64 s, .int .i64 v] w fun e w' => e = .returned (.bool b) ∧ w = w' :=
  (has_nat s v w hs hv).mono fun _ _ hh => ⟨by rw [hh.1, h], hh.2⟩