/- Walks of chapter 8: trees of bags, in the program and in the reference. -/
import Derived.Test.YtnaoomchekhcgaaDoorW9
import Derived.Test.YtnaoomchekhcgaaDoorW3
import Derived.Test.YtnaoomchekhcgaaDoorSl
import Derived.Test.YtnaoomchekhcgaaDoorPure8
namespace Go.Proofs.YtnaoomchekhcgaaDoor
open Go.RowKit

theorem isBag_any (n : Int) (w : World) : Calls Tryd.prog 31 #[.int .i64 n] w fun e w' => e = .returned (.bool (decide (0 ≤ n) && decide (n ≤ 127))) ∧ w = w' := by
  go_enter Tryd.func31, Tryd.ntmps31
  go_wp2_with (go_at_call 30; refine (within_any _ _ _ _).mono ?_; rintro e w' ⟨rfl, rfl⟩)
  go_ret
  exact ⟨rfl, rfl⟩
theorem isBag_yes (n : Int) (w : World) (h : 0 ≤ n ∧ n ≤ 127) : Calls Tryd.prog 31 #[.int .i64 n] w fun e w' => e = .returned (.bool true) ∧ w = w' :=
  (isBag_any n w).mono fun _ _ hh => ⟨by rw [hh.1]; simp [h], hh.2⟩
theorem isBag_no (n : Int) (w : World) (h : ¬ (0 ≤ n ∧ n ≤ 127)) : Calls Tryd.prog 31 #[.int .i64 n] w fun e w' => e = .returned (.bool false) ∧ w = w' :=
  (isBag_any n w).mono fun _ _ hh => ⟨by rw [hh.1]; simp; omega, hh.2⟩

set_option maxHeartbeats 800000 in
theorem implIsTree_any (A B : Option Addr) (n m ca cb : Nat) (L R : List Int) (w : World) (hL : RI w A n L) (hR : RI w B m R) (hn : n ≤ 1048576) (hm : m ≤ 1048576) :
    Calls Tryd.prog 20 #[.agg #[.slice A n ca, .slice B m cb]] w fun e w' => e = .returned (.bool (isTree L R)) ∧ Below w.heap.size w w' := by
  have hLL := Lib.hid hL.1
  have hRR := Lib.hid hR.1
  by_cases h7 : 1 ≤ n ∧ n ≤ 20
  · have h7' : 1 ≤ (n : Int) ∧ (n : Int) ≤ 20 := by omega
    by_cases hmn : m = n
    · subst hmn
      obtain ⟨b0, hB0, hcb0⟩ := hR.after (k := 0) (by omega)
      subst hB0
      by_cases hp0 : R[0]?.getD 0 = -1
      · have Hp0 := Lib.hid hp0
        have hp0' : (R[0]?.getD 0 != -1) = false := by simpa using hp0
        have hcb0' : ∀ o, (w.alloc o).cell? b0 = some (.int .i64 (R[0]?.getD 0)) := hcb0
        clear hp0
        go_enter Tryd.func20, Tryd.ntmps20
        go_wp2_with (go_at_call 30; refine (within_yes _ _ _ _ h7').mono ?_; rintro e w' ⟨rfl, rfl⟩)
        go_loop [29] (fun i => ∃ k : Nat, k ≤ m ∧ i = .int .i64 k ∧ Hid (∀ j, j < k → tOk L R j = true)) (fun i => m - (intOf i).toNat)
        case atStart => exact ⟨0, Nat.zero_le _, rfl, fun j h => absurd h (by omega)⟩
        case round =>
          obtain ⟨k, hk, rfl, hall⟩ := hrel
          by_cases hlt : k < m
          · obtain ⟨a, rfl, hca⟩ := hL.after hlt
            obtain ⟨b, e', hcb⟩ := hR.after hlt
            injection e' with e'
            subst e'
            by_cases hbag : 0 ≤ L[k]?.getD 0 ∧ L[k]?.getD 0 ≤ 127
            · by_cases hk0 : k < 1
              · have Hok := Lib.hid (show tOk L R k = true by
                  obtain rfl : k = 0 := by omega
                  exact tOk_zero.2 ⟨hbag, Hp0.out⟩)
                go_wp2_with (go_at_call 31; refine (isBag_yes _ _ hbag).mono ?_; rintro e w' ⟨rfl, rfl⟩)
                go_round
                case rel => exact ⟨k + 1, by omega, by go_num, fun j hj => by
                  rcases Nat.lt_succ_iff_lt_or_eq.1 hj with h' | rfl
                  · exact hall.out j h'
                  · exact Hok.out⟩
                case measure => simp [intOf]; omega
              · by_cases hpar : 0 ≤ R[k]?.getD 0 ∧ R[k]?.getD 0 ≤ (k : Int) - 1
                · have Hok := Lib.hid ((tOk_pos (B := L) (P := R) (i := k) (by omega)).2 ⟨hbag, hpar⟩)
                  go_wp2_with (first | (go_at_call 31; refine (isBag_yes _ _ hbag).mono ?_; rintro e w' ⟨rfl, rfl⟩) | (go_at_call 30; refine (within_yes _ _ _ _ hpar).mono ?_; rintro e w' ⟨rfl, rfl⟩))
                  go_round
                  case rel => exact ⟨k + 1, by omega, by go_num, fun j hj => by
                    rcases Nat.lt_succ_iff_lt_or_eq.1 hj with h' | rfl
                    · exact hall.out j h'
                    · exact Hok.out⟩
                  case measure => simp [intOf]; omega
                · have Hno := Lib.hid (isTree_false (B := L) (P := R) (j := k) (by rw [hLL.out]; exact hlt) (fun h => hpar ((tOk_pos (by omega)).1 h).2))
                  go_wp2_with (first | (go_at_call 31; refine (isBag_yes _ _ hbag).mono ?_; rintro e w' ⟨rfl, rfl⟩) | (go_at_call 30; refine (within_no _ _ _ _ hpar).mono ?_; rintro e w' ⟨rfl, rfl⟩))
                  go_ret
                  exact ⟨ret_bool Hno.out.symm, by go_grown⟩
            · have Hno := Lib.hid (isTree_false (B := L) (P := R) (j := k) (by rw [hLL.out]; exact hlt) (fun h => hbag (by
                rcases Nat.eq_zero_or_pos k with rfl | h0
                · exact (tOk_zero.1 h).1
                · exact ((tOk_pos h0).1 h).1)))
              go_wp2_with (go_at_call 31; refine (isBag_no _ _ hbag).mono ?_; rintro e w' ⟨rfl, rfl⟩)
              go_ret
              exact ⟨ret_bool Hno.out.symm, by go_grown⟩
          · obtain rfl : k = m := by omega
            go_wp2
            go_ret
            exact ⟨ret_bool (isTree_true (by rw [hLL.out]; omega) (by rw [hLL.out]; omega) (by rw [hLL.out, hRR.out]) (by rw [hLL.out]; exact hall.out)).symm, by go_grown⟩
      · have Hno := Lib.hid (isTree_false (B := L) (P := R) (j := 0) (by rw [hLL.out]; omega) (fun h => hp0 (tOk_zero.1 h).2))
        have hp0' : (R[0]?.getD 0 != -1) = true := by simpa using hp0
        have hcb0' : ∀ o, (w.alloc o).cell? b0 = some (.int .i64 (R[0]?.getD 0)) := hcb0
        go_enter Tryd.func20, Tryd.ntmps20
        go_wp2_with (go_at_call 30; refine (within_yes _ _ _ _ h7').mono ?_; rintro e w' ⟨rfl, rfl⟩)
        go_ret
        exact ⟨ret_bool Hno.out.symm, by go_grown⟩
    · have hne : ((m : Int) != n) = true := by simp; omega
      go_enter Tryd.func20, Tryd.ntmps20
      go_wp2_with (go_at_call 30; refine (within_yes _ _ _ _ h7').mono ?_; rintro e w' ⟨rfl, rfl⟩)
      go_ret
      exact ⟨ret_bool (isTree_len (by rw [hLL.out, hRR.out]; omega)).symm, by go_grown⟩
  · go_enter Tryd.func20, Tryd.ntmps20
    go_wp2_with (go_at_call 30; refine (within_no _ _ _ _ (by omega)).mono ?_; rintro e w' ⟨rfl, rfl⟩)
    go_ret
    exact ⟨ret_bool (isTree_len (by rw [hLL.out, hRR.out]; omega)).symm, by go_grown⟩

set_option maxHeartbeats 800000 in
theorem specIsTree_any (A B : Option Addr) (n m ca cb : Nat) (L R : List Int) (w : World) (hL : RI w A n L) (hR : RI w B m R) (hn : n ≤ 1048576) (hm : m ≤ 1048576) :
    Calls Tryd.prog 16 #[.agg #[.slice A n ca, .slice B m cb]] w fun e w' => e = .returned (.bool (isTree L R)) ∧ Below w.heap.size w w' := by
  have hLL := Lib.hid hL.1
  have hRR := Lib.hid hR.1
  by_cases h7 : 1 ≤ n ∧ n ≤ 20
  · have h7' : 1 ≤ (n : Int) ∧ (n : Int) ≤ 20 := by omega
    by_cases hmn : m = n
    · subst hmn
      go_enter Tryd.func16, Tryd.ntmps16
      go_wp2_with (go_at_call 27; refine (l1In_yes _ _ _ _ h7').mono ?_; rintro e w' ⟨rfl, rfl⟩)
      go_loop [3] (fun i => ∃ k : Nat, k ≤ m ∧ i = .int .i64 k ∧ Hid (∀ j, j < k → tOk L R j = true)) (fun i => m - (intOf i).toNat)
      case atStart => exact ⟨0, Nat.zero_le _, rfl, fun j h => absurd h (by omega)⟩
      case round =>
        obtain ⟨k, hk, rfl, hall⟩ := hrel
        by_cases hlt : k < m
        · obtain ⟨a, rfl, hca⟩ := hL.after hlt
          obtain ⟨b, rfl, hcb⟩ := hR.after hlt
          by_cases hbag : 0 ≤ L[k]?.getD 0 ∧ L[k]?.getD 0 ≤ 127
          · by_cases hk0 : k < 1
            · have hk1 : ((k : Int) == 0) = true := by simp; omega
              by_cases hp0 : R[k]?.getD 0 = -1
              · have Hok := Lib.hid (show tOk L R k = true by
                  obtain rfl : k = 0 := by omega
                  exact tOk_zero.2 ⟨hbag, hp0⟩)
                have hp0' : (R[k]?.getD 0 != -1) = false := by simpa using hp0
                clear hp0
                go_wp2_with (go_at_call 28; refine (l3Fine_yes _ _ hbag).mono ?_; rintro e w' ⟨rfl, rfl⟩)
                go_round
                case rel => exact ⟨k + 1, by omega, by go_num, fun j hj => by
                  rcases Nat.lt_succ_iff_lt_or_eq.1 hj with h' | rfl
                  · exact hall.out j h'
                  · exact Hok.out⟩
                case measure => simp [intOf]; omega
              · have Hno := Lib.hid (isTree_false (B := L) (P := R) (j := k) (by rw [hLL.out]; exact hlt) (fun h => hp0 (by
                  obtain rfl : k = 0 := by omega
                  exact (tOk_zero.1 h).2)))
                have hp0' : (R[k]?.getD 0 != -1) = true := by simpa using hp0
                go_wp2_with (go_at_call 28; refine (l3Fine_yes _ _ hbag).mono ?_; rintro e w' ⟨rfl, rfl⟩)
                go_ret
                exact ⟨ret_bool Hno.out.symm, by go_grown⟩
            · have hk1 : ((k : Int) == 0) = false := by simp; omega
              by_cases hpar : 0 ≤ R[k]?.getD 0 ∧ R[k]?.getD 0 ≤ (k : Int) - 1
              · have Hok := Lib.hid ((tOk_pos (B := L) (P := R) (i := k) (by omega)).2 ⟨hbag, hpar⟩)
                go_wp2_with (first | (go_at_call 28; refine (l3Fine_yes _ _ hbag).mono ?_; rintro e w' ⟨rfl, rfl⟩) | (go_at_call 27; refine (l1In_yes _ _ _ _ hpar).mono ?_; rintro e w' ⟨rfl, rfl⟩))
                go_round
                case rel => exact ⟨k + 1, by omega, by go_num, fun j hj => by
                  rcases Nat.lt_succ_iff_lt_or_eq.1 hj with h' | rfl
                  · exact hall.out j h'
                  · exact Hok.out⟩
                case measure => simp [intOf]; omega
              · have Hno := Lib.hid (isTree_false (B := L) (P := R) (j := k) (by rw [hLL.out]; exact hlt) (fun h => hpar ((tOk_pos (by omega)).1 h).2))
                go_wp2_with (first | (go_at_call 28; refine (l3Fine_yes _ _ hbag).mono ?_; rintro e w' ⟨rfl, rfl⟩) | (go_at_call 27; refine (l1In_no _ _ _ _ hpar).mono ?_; rintro e w' ⟨rfl, rfl⟩))
                go_ret
                exact ⟨ret_bool Hno.out.symm, by go_grown⟩
          · have Hno := Lib.hid (isTree_false (B := L) (P := R) (j := k) (by rw [hLL.out]; exact hlt) (fun h => hbag (by
              rcases Nat.eq_zero_or_pos k with rfl | h0
              · exact (tOk_zero.1 h).1
              · exact ((tOk_pos h0).1 h).1)))
            go_wp2_with (go_at_call 28; refine (l3Fine_no _ _ hbag).mono ?_; rintro e w' ⟨rfl, rfl⟩)
            go_ret
            exact ⟨ret_bool Hno.out.symm, by go_grown⟩
        · obtain rfl : k = m := by omega
          go_wp2
          go_ret
          exact ⟨ret_bool (isTree_true (by rw [hLL.out]; omega) (by rw [hLL.out]; omega) (by rw [hLL.out, hRR.out]) (by rw [hLL.out]; exact hall.out)).symm, by go_grown⟩
    · have hne : ((m : Int) != n) = true := by simp; omega
      go_enter Tryd.func16, Tryd.ntmps16
      go_wp2_with (go_at_call 27; refine (l1In_yes _ _ _ _ h7').mono ?_; rintro e w' ⟨rfl, rfl⟩)
      go_ret
      exact ⟨ret_bool (isTree_len (by rw [hLL.out, hRR.out]; omega)).symm, by go_grown⟩
  · go_enter Tryd.func16, Tryd.ntmps16
    go_wp2_with (go_at_call 27; refine (l1In_no _ _ _ _ (by omega)).mono ?_; rintro e w' ⟨rfl, rfl⟩)
    go_ret
    exact ⟨ret_bool (isTree_len (by rw [hLL.out, hRR.out]; omega)).symm, by go_grown⟩
end Go.Proofs.YtnaoomchekhcgaaDoor
