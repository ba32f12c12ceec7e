/- Two slices of numbers held one against the other: the reference's way, the library's way. -/
import Derived.Test.YthncdjcmlpiebaaGreatDoorBasA
namespace Go.Proofs.YthncdjcmlpiebaaGreatDoor
open Go.RowKit
set_option maxRecDepth 100000 in
set_option maxHeartbeats 400000 in
theorem l8Same_any (A B : Option Addr) (n m ca cb : Nat) (xs ys : List Int) (w : World) (hA : RI w A n xs) (hB : RI w B m ys) (hn : n ≤ 9223372036854775807) :
    Calls Tryz.prog 84 #[.slice A n ca, .slice B m cb] w fun e w' => e = .returned (.bool (decide (xs = ys))) ∧ Below w.heap.size w w' := by
  have HX := Lib.hid hA.1
  have HY := Lib.hid hB.1
  by_cases hnm : n = m
  · subst hnm
    go_enter Tryz.func84, Tryz.ntmps84
    go_wp2
    go_loopw [5] (fun i wr => ∃ k : Nat, k ≤ n ∧ i = .int .i64 k ∧ Below w.heap.size w wr ∧ Hid (∀ j, j < k → xs.getD j 0 = ys.getD j 0)) (fun i _ => n - (intOf i).toNat)
    case atStart => exact ⟨0, Nat.zero_le _, rfl, Below.refl _ _, fun j h => absurd h (by omega)⟩
    case round =>
      obtain ⟨k, hk, rfl, hb, hall⟩ := hrel
      by_cases hlt : k < n
      · obtain ⟨a, rfl, ha, hca⟩ := (hA.up hb).at_ hlt
        obtain ⟨b, rfl, hb', hcb⟩ := (hB.up hb).at_ hlt
        go_wp2_with fail
        go_quiet (fail)
        go_wp2
        · go_ret
          have h : (xs[k]?.getD 0 != ys[k]?.getD 0) = true := by assumption
          exact ⟨ret_bool (list_ne_at (k := k) (by simpa using h)).symm, below_drewN hb _⟩
        · have h : (xs[k]?.getD 0 != ys[k]?.getD 0) = false := by assumption
          go_roundw
          case rel => exact ⟨k + 1, by omega, by go_num, below_drewN hb _, fun j hj => by
            rcases Nat.lt_succ_iff_lt_or_eq.1 hj with h' | rfl
            · exact hall.out j h'
            · simpa using h⟩
          case measure => simp [intOf]; omega
      · obtain rfl : k = n := by omega
        go_wp2
        go_ret
        exact ⟨ret_bool (list_eq_of HX.out HY.out hall.out).symm, hb⟩
  · have e : ((n : Int) != m) = true := by simp; omega
    go_enter Tryz.func84, Tryz.ntmps84
    go_wp2
    go_ret
    exact ⟨ret_bool (list_ne_len HX.out HY.out hnm).symm, Below.refl _ _⟩
set_option maxRecDepth 100000 in
set_option maxHeartbeats 400000 in
theorem slEqual_any (A B : Option Addr) (n m ca cb : Nat) (xs ys : List Int) (w : World) (hA : RI w A n xs) (hB : RI w B m ys) (hn : n ≤ 9223372036854775807) :
    Calls Tryz.prog 88 #[.slice A n ca, .slice B m cb] w fun e w' => e = .returned (.bool (decide (xs = ys))) ∧ Below w.heap.size w w' := by
  have HX := Lib.hid hA.1
  have HY := Lib.hid hB.1
  by_cases hnm : n = m
  · subst hnm
    go_enter Tryz.func88, Tryz.ntmps88
    go_wp2
    go_loopw [13] (fun i wr => ∃ k : Nat, k ≤ n ∧ i = .int .i64 k ∧ Below w.heap.size w wr ∧ Hid (∀ j, j < k → xs.getD j 0 = ys.getD j 0)) (fun i _ => n - (intOf i).toNat)
    case atStart => exact ⟨0, Nat.zero_le _, rfl, Below.refl _ _, fun j h => absurd h (by omega)⟩
    case round =>
      obtain ⟨k, hk, rfl, hb, hall⟩ := hrel
      by_cases hlt : k < n
      · obtain ⟨a, rfl, ha, hca⟩ := (hA.up hb).at_ hlt
        obtain ⟨b, rfl, hb', hcb⟩ := (hB.up hb).at_ hlt
        go_wp2_with fail
        go_quiet (fail)
        go_wp2
        · go_ret
          have h : (xs[k]?.getD 0 != ys[k]?.getD 0) = true := by assumption
          exact ⟨ret_bool (list_ne_at (k := k) (by simpa using h)).symm, below_drewN hb _⟩
        · have h : (xs[k]?.getD 0 != ys[k]?.getD 0) = false := by assumption
          go_roundw
          case rel => exact ⟨k + 1, by omega, by go_num, below_drewN hb _, fun j hj => by
            rcases Nat.lt_succ_iff_lt_or_eq.1 hj with h' | rfl
            · exact hall.out j h'
            · simpa using h⟩
          case measure => simp [intOf]; omega
      · obtain rfl : k = n := by omega
        go_wp2
        go_ret
        exact ⟨ret_bool (list_eq_of HX.out HY.out hall.out).symm, hb⟩
  · have e : ((n : Int) != m) = true := by simp; omega
    go_enter Tryz.func88, Tryz.ntmps88
    go_wp2
    go_ret
    exact ⟨ret_bool (list_ne_len HX.out HY.out hnm).symm, Below.refl _ _⟩

end Go.Proofs.YthncdjcmlpiebaaGreatDoor
