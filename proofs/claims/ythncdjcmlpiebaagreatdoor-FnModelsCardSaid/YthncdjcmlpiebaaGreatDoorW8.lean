/- Walks of chapter 8: trees of bags, in the program and in the reference. -/
import Derived.Test.YthncdjcmlpiebaaGreatDoorW9
import Derived.Test.YthncdjcmlpiebaaGreatDoorW3A
import Derived.Test.YthncdjcmlpiebaaGreatDoorSl
import Derived.Test.YthncdjcmlpiebaaGreatDoorPurA
namespace Go.Proofs.YthncdjcmlpiebaaGreatDoor
open Go.RowKit

set_option maxRecDepth 100000 in
theorem specEqualTrees_any (A B C D : Option Addr) (n m n' m' ca cb cc cd : Nat) (L R L' R' : List Int) (w : World) (hA : RI w A n L) (hB : RI w B m R) (hC : RI w C n' L') (hD : RI w D m' R')
    (hn : n ≤ 9223372036854775807) (hm : m ≤ 9223372036854775807) :
    Calls Tryz.prog 35 #[.agg #[.slice A n ca, .slice B m cb], .agg #[.slice C n' cc, .slice D m' cd]] w fun e w' => e = .returned (.bool (decide (L = L') && decide (R = R'))) ∧ Below w.heap.size w w' := by
  by_cases h1 : L = L'
  · go_enter Tryz.func35, Tryz.ntmps35
    have e1 : decide (L = L') = true := by simp [h1]
    have E1 := Lib.hid e1
    clear h1
    go_wp2_with fail
    refine (l8Same_any _ _ _ _ _ _ _ _ _ (hA.up (by go_grown)) (hC.up (by go_grown)) hn).mono ?_
    rintro e w1 ⟨rfl, hb1⟩
    have hw1 : Below w.heap.size w w1 := Up.then_ (by go_grown) hb1
    obtain ⟨hc1, hf1⟩ := bcell hb1
    have hz1 := hb1.size
    try simp only [World.size_alloc] at hz1
    try simp only [World.size_setCell] at hz1
    try simp only [World.size_alloc] at hz1
    try simp only [World.size_drew] at hz1
    have hl1_0 : w.heap.size < w1.heap.size := by omega
    have hl1_1 : w.heap.size + 1 < w1.heap.size := by omega
    go_wp2_with fail
    refine (l8Same_any _ _ _ _ _ _ _ _ _ (hB.up (by go_grown)) (hD.up (by go_grown)) hm).mono ?_
    rintro e w2 ⟨rfl, hb2⟩
    have hw2 : Below w.heap.size w w2 := Up.then_ (by go_grown) hb2
    obtain ⟨hc2, hf2⟩ := bcell hb2
    have hz2 := hb2.size
    try simp only [World.size_alloc] at hz2
    try simp only [World.size_setCell] at hz2
    try simp only [World.size_alloc] at hz2
    try simp only [World.size_drew] at hz2
    have hl2_0 : w.heap.size < w2.heap.size := by omega
    have hl2_1 : w.heap.size + 1 < w2.heap.size := by omega
    clear e1
    go_wp2
    go_ret
    exact ⟨ret_bool (by rw [E1.out]; rfl), by go_grown⟩
  · have e1 : decide (L = L') = false := by simp [h1]
    go_enter Tryz.func35, Tryz.ntmps35
    clear h1
    go_wp2_with fail
    refine (l8Same_any _ _ _ _ _ _ _ _ _ (hA.up (by go_grown)) (hC.up (by go_grown)) hn).mono ?_
    rintro e w1 ⟨rfl, hb1⟩
    have hw1 : Below w.heap.size w w1 := Up.then_ (by go_grown) hb1
    obtain ⟨hc1, hf1⟩ := bcell hb1
    have hz1 := hb1.size
    try simp only [World.size_alloc] at hz1
    try simp only [World.size_setCell] at hz1
    try simp only [World.size_alloc] at hz1
    try simp only [World.size_drew] at hz1
    have hl1_0 : w.heap.size < w1.heap.size := by omega
    have hl1_1 : w.heap.size + 1 < w1.heap.size := by omega
    go_wp2
    go_ret
    exact ⟨ret_bool (by rw [e1]; rfl), by go_grown⟩
set_option maxRecDepth 100000 in
theorem implEqualTrees_any (A B C D : Option Addr) (n m n' m' ca cb cc cd : Nat) (L R L' R' : List Int) (w : World) (hA : RI w A n L) (hB : RI w B m R) (hC : RI w C n' L') (hD : RI w D m' R')
    (hn : n ≤ 9223372036854775807) (hm : m ≤ 9223372036854775807) :
    Calls Tryz.prog 56 #[.agg #[.slice A n ca, .slice B m cb], .agg #[.slice C n' cc, .slice D m' cd]] w fun e w' => e = .returned (.bool (decide (L = L') && decide (R = R'))) ∧ Below w.heap.size w w' := by
  by_cases h1 : L = L'
  · go_enter Tryz.func56, Tryz.ntmps56
    have e1 : decide (L = L') = true := by simp [h1]
    have E1 := Lib.hid e1
    clear h1
    go_wp2_with fail
    refine (slEqual_any _ _ _ _ _ _ _ _ _ (hA.up (by go_grown)) (hC.up (by go_grown)) hn).mono ?_
    rintro e w1 ⟨rfl, hb1⟩
    have hw1 : Below w.heap.size w w1 := Up.then_ (by go_grown) hb1
    obtain ⟨hc1, hf1⟩ := bcell hb1
    have hz1 := hb1.size
    try simp only [World.size_alloc] at hz1
    try simp only [World.size_setCell] at hz1
    try simp only [World.size_alloc] at hz1
    try simp only [World.size_drew] at hz1
    have hl1_0 : w.heap.size < w1.heap.size := by omega
    have hl1_1 : w.heap.size + 1 < w1.heap.size := by omega
    go_wp2_with fail
    refine (slEqual_any _ _ _ _ _ _ _ _ _ (hB.up (by go_grown)) (hD.up (by go_grown)) hm).mono ?_
    rintro e w2 ⟨rfl, hb2⟩
    have hw2 : Below w.heap.size w w2 := Up.then_ (by go_grown) hb2
    obtain ⟨hc2, hf2⟩ := bcell hb2
    have hz2 := hb2.size
    try simp only [World.size_alloc] at hz2
    try simp only [World.size_setCell] at hz2
    try simp only [World.size_alloc] at hz2
    try simp only [World.size_drew] at hz2
    have hl2_0 : w.heap.size < w2.heap.size := by omega
    have hl2_1 : w.heap.size + 1 < w2.heap.size := by omega
    clear e1
    go_wp2
    go_ret
    exact ⟨ret_bool (by rw [E1.out]; rfl), by go_grown⟩
  · have e1 : decide (L = L') = false := by simp [h1]
    go_enter Tryz.func56, Tryz.ntmps56
    clear h1
    go_wp2_with fail
    refine (slEqual_any _ _ _ _ _ _ _ _ _ (hA.up (by go_grown)) (hC.up (by go_grown)) hn).mono ?_
    rintro e w1 ⟨rfl, hb1⟩
    have hw1 : Below w.heap.size w w1 := Up.then_ (by go_grown) hb1
    obtain ⟨hc1, hf1⟩ := bcell hb1
    have hz1 := hb1.size
    try simp only [World.size_alloc] at hz1
    try simp only [World.size_setCell] at hz1
    try simp only [World.size_alloc] at hz1
    try simp only [World.size_drew] at hz1
    have hl1_0 : w.heap.size < w1.heap.size := by omega
    have hl1_1 : w.heap.size + 1 < w1.heap.size := by omega
    go_wp2
    go_ret
    exact ⟨ret_bool (by rw [e1]; rfl), by go_grown⟩
set_option maxRecDepth 100000 in
theorem isBag_any (n : Int) (w : World) : Calls Tryz.prog 105 #[.int .i64 n] w fun e w' => e = .returned (.bool (decide (0 ≤ n) && decide (n ≤ 127))) ∧ w = w' := by
  go_enter Tryz.func105, Tryz.ntmps105
  go_wp2_with (go_at_call 66; refine (within_any _ _ _ _).mono ?_; rintro e w' ⟨rfl, rfl⟩)
  go_ret
  exact ⟨rfl, rfl⟩
set_option maxRecDepth 100000 in
theorem isBag_yes (n : Int) (w : World) (h : 0 ≤ n ∧ n ≤ 127) : Calls Tryz.prog 105 #[.int .i64 n] w fun e w' => e = .returned (.bool true) ∧ w = w' :=
  (isBag_any n w).mono fun _ _ hh => ⟨by rw [hh.1]; simp [h], hh.2⟩
set_option maxRecDepth 100000 in
theorem isBag_no (n : Int) (w : World) (h : ¬ (0 ≤ n ∧ n ≤ 127)) : Calls Tryz.prog 105 #[.int .i64 n] w fun e w' => e = .returned (.bool false) ∧ w = w' :=
  (isBag_any n w).mono fun _ _ hh => ⟨by rw [hh.1]; simp; omega, hh.2⟩

set_option maxRecDepth 100000 in
set_option maxHeartbeats 800000 in
theorem implIsTree_any (A B : Option Addr) (n m ca cb : Nat) (L R : List Int) (w : World) (hL : RI w A n L) (hR : RI w B m R) (hn : n ≤ 1048576) (hm : m ≤ 1048576) :
    Calls Tryz.prog 52 #[.agg #[.slice A n ca, .slice B m cb]] w fun e w' => e = .returned (.bool (isTree L R)) ∧ Below w.heap.size w w' := by
  have hLL := Lib.hid hL.1
  have hRR := Lib.hid hR.1
  by_cases h7 : 1 ≤ n ∧ n ≤ 20
  · have h7' : 1 ≤ (n : Int) ∧ (n : Int) ≤ 20 := by omega
    by_cases hmn : m = n
    · subst hmn
      obtain ⟨b0, hB0, hcb0⟩ := hR.after (k := 0) (by omega)
      subst hB0
      by_cases hp0 : R[0]?.getD 0 = -1
      · have Hp0 := Lib.hid hp0
        have hp0' : (R[0]?.getD 0 != -1) = false := by simpa using hp0
        have hcb0' : ∀ o, (w.alloc o).cell? b0 = some (.int .i64 (R[0]?.getD 0)) := hcb0
        clear hp0
        go_enter Tryz.func52, Tryz.ntmps52
        go_wp2_with (go_at_call 66; refine (within_yes _ _ _ _ h7').mono ?_; rintro e w' ⟨rfl, rfl⟩)
        go_loop [29] (fun i => ∃ k : Nat, k ≤ m ∧ i = .int .i64 k ∧ Hid (∀ j, j < k → tOk L R j = true)) (fun i => m - (intOf i).toNat)
        case atStart => exact ⟨0, Nat.zero_le _, rfl, fun j h => absurd h (by omega)⟩
        case round =>
          obtain ⟨k, hk, rfl, hall⟩ := hrel
          by_cases hlt : k < m
          · obtain ⟨a, rfl, hca⟩ := hL.after hlt
            obtain ⟨b, e', hcb⟩ := hR.after hlt
            injection e' with e'
            subst e'
            by_cases hbag : 0 ≤ L[k]?.getD 0 ∧ L[k]?.getD 0 ≤ 127
            · by_cases hk0 : k < 1
              · have Hok := Lib.hid (show tOk L R k = true by
                  obtain rfl : k = 0 := by omega
                  exact tOk_zero.2 ⟨hbag, Hp0.out⟩)
                go_wp2_with (go_at_call 105; refine (isBag_yes _ _ hbag).mono ?_; rintro e w' ⟨rfl, rfl⟩)
                go_round
                case rel => exact ⟨k + 1, by omega, by go_num, fun j hj => by
                  rcases Nat.lt_succ_iff_lt_or_eq.1 hj with h' | rfl
                  · exact hall.out j h'
                  · exact Hok.out⟩
                case measure => simp [intOf]; omega
              · by_cases hpar : 0 ≤ R[k]?.getD 0 ∧ R[k]?.getD 0 ≤ (k : Int) - 1
                · have Hok := Lib.hid ((tOk_pos (B := L) (P := R) (i := k) (by omega)).2 ⟨hbag, hpar⟩)
                  go_wp2_with (first | (go_at_call 105; refine (isBag_yes _ _ hbag).mono ?_; rintro e w' ⟨rfl, rfl⟩) | (go_at_call 66; refine (within_yes _ _ _ _ hpar).mono ?_; rintro e w' ⟨rfl, rfl⟩))
                  go_round
                  case rel => exact ⟨k + 1, by omega, by go_num, fun j hj => by
                    rcases Nat.lt_succ_iff_lt_or_eq.1 hj with h' | rfl
                    · exact hall.out j h'
                    · exact Hok.out⟩
                  case measure => simp [intOf]; omega
                · have Hno := Lib.hid (isTree_false (B := L) (P := R) (j := k) (by rw [hLL.out]; exact hlt) (fun h => hpar ((tOk_pos (by omega)).1 h).2))
                  go_wp2_with (first | (go_at_call 105; refine (isBag_yes _ _ hbag).mono ?_; rintro e w' ⟨rfl, rfl⟩) | (go_at_call 66; refine (within_no _ _ _ _ hpar).mono ?_; rintro e w' ⟨rfl, rfl⟩))
                  go_ret
                  exact ⟨ret_bool Hno.out.symm, by go_grown⟩
            · have Hno := Lib.hid (isTree_false (B := L) (P := R) (j := k) (by rw [hLL.out]; exact hlt) (fun h => hbag (by
                rcases Nat.eq_zero_or_pos k with rfl | h0
                · exact (tOk_zero.1 h).1
                · exact ((tOk_pos h0).1 h).1)))
              go_wp2_with (go_at_call 105; refine (isBag_no _ _ hbag).mono ?_; rintro e w' ⟨rfl, rfl⟩)
              go_ret
              exact ⟨ret_bool Hno.out.symm, by go_grown⟩
          · obtain rfl : k = m := by omega
            go_wp2
            go_ret
            exact ⟨ret_bool (isTree_true (by rw [hLL.out]; omega) (by rw [hLL.out]; omega) (by rw [hLL.out, hRR.out]) (by rw [hLL.out]; exact hall.out)).symm, by go_grown⟩
      · have Hno := Lib.hid (isTree_false (B := L) (P := R) (j := 0) (by rw [hLL.out]; omega) (fun h => hp0 (tOk_zero.1 h).2))
        have hp0' : (R[0]?.getD 0 != -1) = true := by simpa using hp0
        have hcb0' : ∀ o, (w.alloc o).cell? b0 = some (.int .i64 (R[0]?.getD 0)) := hcb0
        go_enter Tryz.func52, Tryz.ntmps52
        go_wp2_with (go_at_call 66; refine (within_yes _ _ _ _ h7').mono ?_; rintro e w' ⟨rfl, rfl⟩)
        go_ret
        exact ⟨ret_bool Hno.out.symm, by go_grown⟩
    · have hne : ((m : Int) != n) = true := by simp; omega
      go_enter Tryz.func52, Tryz.ntmps52
      go_wp2_with (go_at_call 66; refine (within_yes _ _ _ _ h7').mono ?_; rintro e w' ⟨rfl, rfl⟩)
      go_ret
      exact ⟨ret_bool (isTree_len (by rw [hLL.out, hRR.out]; omega)).symm, by go_grown⟩
  · go_enter Tryz.func52, Tryz.ntmps52
    go_wp2_with (go_at_call 66; refine (within_no _ _ _ _ (by omega)).mono ?_; rintro e w' ⟨rfl, rfl⟩)
    go_ret
    exact ⟨ret_bool (isTree_len (by rw [hLL.out, hRR.out]; omega)).symm, by go_grown⟩

set_option maxRecDepth 100000 in
set_option maxHeartbeats 800000 in
theorem specIsTree_any (A B : Option Addr) (n m ca cb : Nat) (L R : List Int) (w : World) (hL : RI w A n L) (hR : RI w B m R) (hn : n ≤ 1048576) (hm : m ≤ 1048576) :
    Calls Tryz.prog 53 #[.agg #[.slice A n ca, .slice B m cb]] w fun e w' => e = .returned (.bool (isTree L R)) ∧ Below w.heap.size w w' := by
  have hLL := Lib.hid hL.1
  have hRR := Lib.hid hR.1
  by_cases h7 : 1 ≤ n ∧ n ≤ 20
  · have h7' : 1 ≤ (n : Int) ∧ (n : Int) ≤ 20 := by omega
    by_cases hmn : m = n
    · subst hmn
      go_enter Tryz.func53, Tryz.ntmps53
      go_wp2_with (go_at_call 95; refine (l1In_yes _ _ _ _ h7').mono ?_; rintro e w' ⟨rfl, rfl⟩)
      go_loop [3] (fun i => ∃ k : Nat, k ≤ m ∧ i = .int .i64 k ∧ Hid (∀ j, j < k → tOk L R j = true)) (fun i => m - (intOf i).toNat)
      case atStart => exact ⟨0, Nat.zero_le _, rfl, fun j h => absurd h (by omega)⟩
      case round =>
        obtain ⟨k, hk, rfl, hall⟩ := hrel
        by_cases hlt : k < m
        · obtain ⟨a, rfl, hca⟩ := hL.after hlt
          obtain ⟨b, rfl, hcb⟩ := hR.after hlt
          by_cases hbag : 0 ≤ L[k]?.getD 0 ∧ L[k]?.getD 0 ≤ 127
          · by_cases hk0 : k < 1
            · have hk1 : ((k : Int) == 0) = true := by simp; omega
              by_cases hp0 : R[k]?.getD 0 = -1
              · have Hok := Lib.hid (show tOk L R k = true by
                  obtain rfl : k = 0 := by omega
                  exact tOk_zero.2 ⟨hbag, hp0⟩)
                have hp0' : (R[k]?.getD 0 != -1) = false := by simpa using hp0
                clear hp0
                go_wp2_with (go_at_call 106; refine (l3Fine_yes _ _ hbag).mono ?_; rintro e w' ⟨rfl, rfl⟩)
                go_round
                case rel => exact ⟨k + 1, by omega, by go_num, fun j hj => by
                  rcases Nat.lt_succ_iff_lt_or_eq.1 hj with h' | rfl
                  · exact hall.out j h'
                  · exact Hok.out⟩
                case measure => simp [intOf]; omega
              · have Hno := Lib.hid (isTree_false (B := L) (P := R) (j := k) (by rw [hLL.out]; exact hlt) (fun h => hp0 (by
                  obtain rfl : k = 0 := by omega
                  exact (tOk_zero.1 h).2)))
                have hp0' : (R[k]?.getD 0 != -1) = true := by simpa using hp0
                go_wp2_with (go_at_call 106; refine (l3Fine_yes _ _ hbag).mono ?_; rintro e w' ⟨rfl, rfl⟩)
                go_ret
                exact ⟨ret_bool Hno.out.symm, by go_grown⟩
            · have hk1 : ((k : Int) == 0) = false := by simp; omega
              by_cases hpar : 0 ≤ R[k]?.getD 0 ∧ R[k]?.getD 0 ≤ (k : Int) - 1
              · have Hok := Lib.hid ((tOk_pos (B := L) (P := R) (i := k) (by omega)).2 ⟨hbag, hpar⟩)
                go_wp2_with (first | (go_at_call 106; refine (l3Fine_yes _ _ hbag).mono ?_; rintro e w' ⟨rfl, rfl⟩) | (go_at_call 95; refine (l1In_yes _ _ _ _ hpar).mono ?_; rintro e w' ⟨rfl, rfl⟩))
                go_round
                case rel => exact ⟨k + 1, by omega, by go_num, fun j hj => by
                  rcases Nat.lt_succ_iff_lt_or_eq.1 hj with h' | rfl
                  · exact hall.out j h'
                  · exact Hok.out⟩
                case measure => simp [intOf]; omega
              · have Hno := Lib.hid (isTree_false (B := L) (P := R) (j := k) (by rw [hLL.out]; exact hlt) (fun h => hpar ((tOk_pos (by omega)).1 h).2))
                go_wp2_with (first | (go_at_call 106; refine (l3Fine_yes _ _ hbag).mono ?_; rintro e w' ⟨rfl, rfl⟩) | (go_at_call 95; refine (l1In_no _ _ _ _ hpar).mono ?_; rintro e w' ⟨rfl, rfl⟩))
                go_ret
                exact ⟨ret_bool Hno.out.symm, by go_grown⟩
          · have Hno := Lib.hid (isTree_false (B := L) (P := R) (j := k) (by rw [hLL.out]; exact hlt) (fun h => hbag (by
              rcases Nat.eq_zero_or_pos k with rfl | h0
              · exact (tOk_zero.1 h).1
              · exact ((tOk_pos h0).1 h).1)))
            go_wp2_with (go_at_call 106; refine (l3Fine_no _ _ hbag).mono ?_; rintro e w' ⟨rfl, rfl⟩)
            go_ret
            exact ⟨ret_bool Hno.out.symm, by go_grown⟩
        · obtain rfl : k = m := by omega
          go_wp2
          go_ret
          exact ⟨ret_bool (isTree_true (by rw [hLL.out]; omega) (by rw [hLL.out]; omega) (by rw [hLL.out, hRR.out]) (by rw [hLL.out]; exact hall.out)).symm, by go_grown⟩
    · have hne : ((m : Int) != n) = true := by simp; omega
      go_enter Tryz.func53, Tryz.ntmps53
      go_wp2_with (go_at_call 95; refine (l1In_yes _ _ _ _ h7').mono ?_; rintro e w' ⟨rfl, rfl⟩)
      go_ret
      exact ⟨ret_bool (isTree_len (by rw [hLL.out, hRR.out]; omega)).symm, by go_grown⟩
  · go_enter Tryz.func53, Tryz.ntmps53
    go_wp2_with (go_at_call 95; refine (l1In_no _ _ _ _ (by omega)).mono ?_; rintro e w' ⟨rfl, rfl⟩)
    go_ret
    exact ⟨ret_bool (isTree_len (by rw [hLL.out, hRR.out]; omega)).symm, by go_grown⟩
end Go.Proofs.YthncdjcmlpiebaaGreatDoor
