/- Walks of chapter 8: trees of bags, in the program and in the reference. Walks of chapter 9: the graph of intervals. Walks of chapter 8: the graph of a tree of bags. -/
import Derived.Test.YthncdjcmlpiebaaGreatDoorQc01
import Derived.Test.YthncdjcmlpiebaaGreatDoorQc02
import Derived.Test.YthncdjcmlpiebaaGreatDoorQc03
import Derived.Test.YthncdjcmlpiebaaGreatDoorQc04
import Derived.Test.YthncdjcmlpiebaaGreatDoorQc05
import Derived.Test.YthncdjcmlpiebaaGreatDoorQc13
namespace Go.Proofs.YthncdjcmlpiebaaGreatDoor
open Go.RowKit

set_option maxRecDepth 100000 in
theorem specEqualTrees_any (A B C D : Option Addr) (n m n' m' ca cb cc cd : Nat) (L R L' R' : List Int) (w : World) (hA : RI w A n L) (hB : RI w B m R) (hC : RI w C n' L') (hD : RI w D m' R')
    (hn : n ≤ 9223372036854775807) (hm : m ≤ 9223372036854775807) :
    Calls Tryz.prog 35 #[.agg #[.slice A n ca, .slice B m cb], .agg #[.slice C n' cc, .slice D m' cd]] w fun e w' => e = .returned (.bool (decide (L = L') && decide (R = R'))) ∧ Below w.heap.size w w' := by
  by_cases h1 : L = L'
  · go_enter Tryz.func35, Tryz.ntmps35
    have e1 : decide (L = L') = true := by simp [h1]
    have E1 := Lib.hid e1
    clear h1
    go_wp2_with fail
    refine (l8Same_any _ _ _ _ _ _ _ _ _ (hA.up (by go_grown)) (hC.up (by go_grown)) hn).mono ?_
    rintro e w1 ⟨rfl, hb1⟩
    have hw1 : Below w.heap.size w w1 := Up.then_ (by go_grown) hb1
    obtain ⟨hc1, hf1⟩ := bcell hb1
    have hz1 := hb1.size
    try simp only [World.size_alloc] at hz1
    try simp only [World.size_setCell] at hz1
    try simp only [World.size_alloc] at hz1
    try simp only [World.size_drew] at hz1
    have hl1_0 : w.heap.size < w1.heap.size := by omega
    have hl1_1 : w.heap.size + 1 < w1.heap.size := by omega
    go_wp2_with fail
    refine (l8Same_any _ _ _ _ _ _ _ _ _ (hB.up (by go_grown)) (hD.up (by go_grown)) hm).mono ?_
    rintro e w2 ⟨rfl, hb2⟩
    have hw2 : Below w.heap.size w w2 := Up.then_ (by go_grown) hb2
    obtain ⟨hc2, hf2⟩ := bcell hb2
    have hz2 := hb2.size
    try simp only [World.size_alloc] at hz2
    try simp only [World.size_setCell] at hz2
    try simp only [World.size_alloc] at hz2
    try simp only [World.size_drew] at hz2
    have hl2_0 : w.heap.size < w2.heap.size := by omega
    have hl2_1 : w.heap.size + 1 < w2.heap.size := by omega
    clear e1
    go_wp2
    go_ret
    exact ⟨ret_bool (by rw [E1.out]; rfl), by go_grown⟩
  · have e1 : decide (L = L') = false := by simp [h1]
    go_enter Tryz.func35, Tryz.ntmps35
    clear h1
    go_wp2_with fail
    refine (l8Same_any _ _ _ _ _ _ _ _ _ (hA.up (by go_grown)) (hC.up (by go_grown)) hn).mono ?_
    rintro e w1 ⟨rfl, hb1⟩
    have hw1 : Below w.heap.size w w1 := Up.then_ (by go_grown) hb1
    obtain ⟨hc1, hf1⟩ := bcell hb1
    have hz1 := hb1.size
    try simp only [World.size_alloc] at hz1
    try simp only [World.size_setCell] at hz1
    try simp only [World.size_alloc] at hz1
    try simp only [World.size_drew] at hz1
    have hl1_0 : w.heap.size < w1.heap.size := by omega
    have hl1_1 : w.heap.size + 1 < w1.heap.size := by omega
    go_wp2
    go_ret
    exact ⟨ret_bool (by rw [e1]; rfl), by go_grown⟩
set_option maxRecDepth 100000 in
theorem implEqualTrees_any (A B C D : Option Addr) (n m n' m' ca cb cc cd : Nat) (L R L' R' : List Int) (w : World) (hA : RI w A n L) (hB : RI w B m R) (hC : RI w C n' L') (hD : RI w D m' R')
    (hn : n ≤ 9223372036854775807) (hm : m ≤ 9223372036854775807) :
    Calls Tryz.prog 56 #[.agg #[.slice A n ca, .slice B m cb], .agg #[.slice C n' cc, .slice D m' cd]] w fun e w' => e = .returned (.bool (decide (L = L') && decide (R = R'))) ∧ Below w.heap.size w w' := by
  by_cases h1 : L = L'
  · go_enter Tryz.func56, Tryz.ntmps56
    have e1 : decide (L = L') = true := by simp [h1]
    have E1 := Lib.hid e1
    clear h1
    go_wp2_with fail
    refine (slEqual_any _ _ _ _ _ _ _ _ _ (hA.up (by go_grown)) (hC.up (by go_grown)) hn).mono ?_
    rintro e w1 ⟨rfl, hb1⟩
    have hw1 : Below w.heap.size w w1 := Up.then_ (by go_grown) hb1
    obtain ⟨hc1, hf1⟩ := bcell hb1
    have hz1 := hb1.size
    try simp only [World.size_alloc] at hz1
    try simp only [World.size_setCell] at hz1
    try simp only [World.size_alloc] at hz1
    try simp only [World.size_drew] at hz1
    have hl1_0 : w.heap.size < w1.heap.size := by omega
    have hl1_1 : w.heap.size + 1 < w1.heap.size := by omega
    go_wp2_with fail
    refine (slEqual_any _ _ _ _ _ _ _ _ _ (hB.up (by go_grown)) (hD.up (by go_grown)) hm).mono ?_
    rintro e w2 ⟨rfl, hb2⟩
    have hw2 : Below w.heap.size w w2 := Up.then_ (by go_grown) hb2
    obtain ⟨hc2, hf2⟩ := bcell hb2
    have hz2 := hb2.size
    try simp only [World.size_alloc] at hz2
    try simp only [World.size_setCell] at hz2
    try simp only [World.size_alloc] at hz2
    try simp only [World.size_drew] at hz2
    have hl2_0 : w.heap.size < w2.heap.size := by omega
    have hl2_1 : w.heap.size + 1 < w2.heap.size := by omega
    clear e1
    go_wp2
    go_ret
    exact ⟨ret_bool (by rw [E1.out]; rfl), by go_grown⟩
  · have e1 : decide (L = L') = false := by simp [h1]
    go_enter Tryz.func56, Tryz.ntmps56
    clear h1
    go_wp2_with fail
    refine (slEqual_any _ _ _ _ _ _ _ _ _ (hA.up (by go_grown)) (hC.up (by go_grown)) hn).mono ?_
    rintro e w1 ⟨rfl, hb1⟩
    have hw1 : Below w.heap.size w w1 := Up.then_ (by go_grown) hb1
    obtain ⟨hc1, hf1⟩ := bcell hb1
    have hz1 := hb1.size
    try simp only [World.size_alloc] at hz1
    try simp only [World.size_setCell] at hz1
    try simp only [World.size_alloc] at hz1
    try simp only [World.size_drew] at hz1
    have hl1_0 : w.heap.size < w1.heap.size := by omega
    have hl1_1 : w.heap.size + 1 < w1.heap.size := by omega
    go_wp2
    go_ret
    exact ⟨ret_bool (by rw [e1]; rfl), by go_grown⟩
set_option maxRecDepth 100000 in
theorem isBag_any (n : Int) (w : World) : Calls Tryz.prog 105 #[.int .i64 n] w fun e w' => e = .returned (.bool (decide (0 ≤ n) && decide (n ≤ 127))) ∧ w = w' := by
  go_enter Tryz.func105, Tryz.ntmps105
  go_wp2_with (go_at_call 66; refine (within_any _ _ _ _).mono ?_; rintro e w' ⟨rfl, rfl⟩)
  go_ret
  exact ⟨rfl, rfl⟩
set_option maxRecDepth 100000 in
theorem isBag_yes (n : Int) (w : World) (h : 0 ≤ n ∧ n ≤ 127) : Calls Tryz.prog 105 #[.int .i64 n] w fun e w' => e = .returned (.bool true) ∧ w = w' :=
  (isBag_any n w).mono fun _ _ hh => ⟨by rw [hh.1]; simp [h], hh.2⟩
set_option maxRecDepth 100000 in
theorem isBag_no (n : Int) (w : World) (h : ¬ (0 ≤ n ∧ n ≤ 127)) : Calls Tryz.prog 105 #[.int .i64 n] w fun e w' => e = .returned (.bool false) ∧ w = w' :=
  (isBag_any n w).mono fun _ _ hh => ⟨by rw [hh.1]; simp; omega, hh.2⟩
set_option maxRecDepth 100000 in
set_option maxHeartbeats 800000 in
theorem implIsTree_any (A B : Option Addr) (n m ca cb : Nat) (L R : List Int) (w : World) (hL : RI w A n L) (hR : RI w B m R) (hn : n ≤ 1048576) (hm : m ≤ 1048576) :
    Calls Tryz.prog 52 #[.agg #[.slice A n ca, .slice B m cb]] w fun e w' => e = .returned (.bool (isTree L R)) ∧ Below w.heap.size w w' := by
  have hLL := Lib.hid hL.1
  have hRR := Lib.hid hR.1
  by_cases h7 : 1 ≤ n ∧ n ≤ 20
  · have h7' : 1 ≤ (n : Int) ∧ (n : Int) ≤ 20 := by omega
    by_cases hmn : m = n
    · subst hmn
      obtain ⟨b0, hB0, hcb0⟩ := hR.after (k := 0) (by omega)
      subst hB0
      by_cases hp0 : R[0]?.getD 0 = -1
      · have Hp0 := Lib.hid hp0
        have hp0' : (R[0]?.getD 0 != -1) = false := by simpa using hp0
        have hcb0' : ∀ o, (w.alloc o).cell? b0 = some (.int .i64 (R[0]?.getD 0)) := hcb0
        clear hp0
        go_enter Tryz.func52, Tryz.ntmps52
        go_wp2_with (go_at_call 66; refine (within_yes _ _ _ _ h7').mono ?_; rintro e w' ⟨rfl, rfl⟩)
        go_loop [29] (fun i => ∃ k : Nat, k ≤ m ∧ i = .int .i64 k ∧ Hid (∀ j, j < k → tOk L R j = true)) (fun i => m - (intOf i).toNat)
        case atStart => exact ⟨0, Nat.zero_le _, rfl, fun j h => absurd h (by omega)⟩
        case round =>
          obtain ⟨k, hk, rfl, hall⟩ := hrel
          by_cases hlt : k < m
          · obtain ⟨a, rfl, hca⟩ := hL.after hlt
            obtain ⟨b, e', hcb⟩ := hR.after hlt
            injection e' with e'
            subst e'
            by_cases hbag : 0 ≤ L[k]?.getD 0 ∧ L[k]?.getD 0 ≤ 127
            · by_cases hk0 : k < 1
              · have Hok := Lib.hid (show tOk L R k = true by
                  obtain rfl : k = 0 := by omega
                  exact tOk_zero.2 ⟨hbag, Hp0.out⟩)
                go_wp2_with (go_at_call 105; refine (isBag_yes _ _ hbag).mono ?_; rintro e w' ⟨rfl, rfl⟩)
                go_round
                case rel => exact ⟨k + 1, by omega, by go_num, fun j hj => by
                  rcases Nat.lt_succ_iff_lt_or_eq.1 hj with h' | rfl
                  · exact hall.out j h'
                  · exact Hok.out⟩
                case measure => simp [intOf]; omega
              · by_cases hpar : 0 ≤ R[k]?.getD 0 ∧ R[k]?.getD 0 ≤ (k : Int) - 1
                · have Hok := Lib.hid ((tOk_pos (B := L) (P := R) (i := k) (by omega)).2 ⟨hbag, hpar⟩)
                  go_wp2_with (first | (go_at_call 105; refine (isBag_yes _ _ hbag).mono ?_; rintro e w' ⟨rfl, rfl⟩) | (go_at_call 66; refine (within_yes _ _ _ _ hpar).mono ?_; rintro e w' ⟨rfl, rfl⟩))
                  go_round
                  case rel => exact ⟨k + 1, by omega, by go_num, fun j hj => by
                    rcases Nat.lt_succ_iff_lt_or_eq.1 hj with h' | rfl
                    · exact hall.out j h'
                    · exact Hok.out⟩
                  case measure => simp [intOf]; omega
                · have Hno := Lib.hid (isTree_false (B := L) (P := R) (j := k) (by rw [hLL.out]; exact hlt) (fun h => hpar ((tOk_pos (by omega)).1 h).2))
                  go_wp2_with (first | (go_at_call 105; refine (isBag_yes _ _ hbag).mono ?_; rintro e w' ⟨rfl, rfl⟩) | (go_at_call 66; refine (within_no _ _ _ _ hpar).mono ?_; rintro e w' ⟨rfl, rfl⟩))
                  go_ret
                  exact ⟨ret_bool Hno.out.symm, by go_grown⟩
            · have Hno := Lib.hid (isTree_false (B := L) (P := R) (j := k) (by rw [hLL.out]; exact hlt) (fun h => hbag (by
                rcases Nat.eq_zero_or_pos k with rfl | h0
                · exact (tOk_zero.1 h).1
                · exact ((tOk_pos h0).1 h).1)))
              go_wp2_with (go_at_call 105; refine (isBag_no _ _ hbag).mono ?_; rintro e w' ⟨rfl, rfl⟩)
              go_ret
              exact ⟨ret_bool Hno.out.symm, by go_grown⟩
          · obtain rfl : k = m := by omega
            go_wp2
            go_ret
            exact ⟨ret_bool (isTree_true (by rw [hLL.out]; omega) (by rw [hLL.out]; omega) (by rw [hLL.out, hRR.out]) (by rw [hLL.out]; exact hall.out)).symm, by go_grown⟩
      · have Hno := Lib.hid (isTree_false (B := L) (P := R) (j := 0) (by rw [hLL.out]; omega) (fun h => hp0 (tOk_zero.1 h).2))
        have hp0' : (R[0]?.getD 0 != -1) = true := by simpa using hp0
        have hcb0' : ∀ o, (w.alloc o).cell? b0 = some (.int .i64 (R[0]?.getD 0)) := hcb0
        go_enter Tryz.func52, Tryz.ntmps52
        go_wp2_with (go_at_call 66; refine (within_yes _ _ _ _ h7').mono ?_; rintro e w' ⟨rfl, rfl⟩)
        go_ret
        exact ⟨ret_bool Hno.out.symm, by go_grown⟩
    · have hne : ((m : Int) != n) = true := by simp; omega
      go_enter Tryz.func52, Tryz.ntmps52
      go_wp2_with (go_at_call 66; refine (within_yes _ _ _ _ h7').mono ?_; rintro e w' ⟨rfl, rfl⟩)
      go_ret
      exact ⟨ret_bool (isTree_len (by rw [hLL.out, hRR.out]; omega)).symm, by go_grown⟩
  · go_enter Tryz.func52, Tryz.ntmps52
    go_wp2_with (go_at_call 66; refine (within_no _ _ _ _ (by omega)).mono ?_; rintro e w' ⟨rfl, rfl⟩)
    go_ret
    exact ⟨ret_bool (isTree_len (by rw [hLL.out, hRR.out]; omega)).symm, by go_grown⟩
set_option maxRecDepth 100000 in
set_option maxHeartbeats 800000 in
theorem specIsTree_any (A B : Option Addr) (n m ca cb : Nat) (L R : List Int) (w : World) (hL : RI w A n L) (hR : RI w B m R) (hn : n ≤ 1048576) (hm : m ≤ 1048576) :
    Calls Tryz.prog 53 #[.agg #[.slice A n ca, .slice B m cb]] w fun e w' => e = .returned (.bool (isTree L R)) ∧ Below w.heap.size w w' := by
  have hLL := Lib.hid hL.1
  have hRR := Lib.hid hR.1
  by_cases h7 : 1 ≤ n ∧ n ≤ 20
  · have h7' : 1 ≤ (n : Int) ∧ (n : Int) ≤ 20 := by omega
    by_cases hmn : m = n
    · subst hmn
      go_enter Tryz.func53, Tryz.ntmps53
      go_wp2_with (go_at_call 95; refine (l1In_yes _ _ _ _ h7').mono ?_; rintro e w' ⟨rfl, rfl⟩)
      go_loop [3] (fun i => ∃ k : Nat, k ≤ m ∧ i = .int .i64 k ∧ Hid (∀ j, j < k → tOk L R j = true)) (fun i => m - (intOf i).toNat)
      case atStart => exact ⟨0, Nat.zero_le _, rfl, fun j h => absurd h (by omega)⟩
      case round =>
        obtain ⟨k, hk, rfl, hall⟩ := hrel
        by_cases hlt : k < m
        · obtain ⟨a, rfl, hca⟩ := hL.after hlt
          obtain ⟨b, rfl, hcb⟩ := hR.after hlt
          by_cases hbag : 0 ≤ L[k]?.getD 0 ∧ L[k]?.getD 0 ≤ 127
          · by_cases hk0 : k < 1
            · have hk1 : ((k : Int) == 0) = true := by simp; omega
              by_cases hp0 : R[k]?.getD 0 = -1
              · have Hok := Lib.hid (show tOk L R k = true by
                  obtain rfl : k = 0 := by omega
                  exact tOk_zero.2 ⟨hbag, hp0⟩)
                have hp0' : (R[k]?.getD 0 != -1) = false := by simpa using hp0
                clear hp0
                go_wp2_with (go_at_call 106; refine (l3Fine_yes _ _ hbag).mono ?_; rintro e w' ⟨rfl, rfl⟩)
                go_round
                case rel => exact ⟨k + 1, by omega, by go_num, fun j hj => by
                  rcases Nat.lt_succ_iff_lt_or_eq.1 hj with h' | rfl
                  · exact hall.out j h'
                  · exact Hok.out⟩
                case measure => simp [intOf]; omega
              · have Hno := Lib.hid (isTree_false (B := L) (P := R) (j := k) (by rw [hLL.out]; exact hlt) (fun h => hp0 (by
                  obtain rfl : k = 0 := by omega
                  exact (tOk_zero.1 h).2)))
                have hp0' : (R[k]?.getD 0 != -1) = true := by simpa using hp0
                go_wp2_with (go_at_call 106; refine (l3Fine_yes _ _ hbag).mono ?_; rintro e w' ⟨rfl, rfl⟩)
                go_ret
                exact ⟨ret_bool Hno.out.symm, by go_grown⟩
            · have hk1 : ((k : Int) == 0) = false := by simp; omega
              by_cases hpar : 0 ≤ R[k]?.getD 0 ∧ R[k]?.getD 0 ≤ (k : Int) - 1
              · have Hok := Lib.hid ((tOk_pos (B := L) (P := R) (i := k) (by omega)).2 ⟨hbag, hpar⟩)
                go_wp2_with (first | (go_at_call 106; refine (l3Fine_yes _ _ hbag).mono ?_; rintro e w' ⟨rfl, rfl⟩) | (go_at_call 95; refine (l1In_yes _ _ _ _ hpar).mono ?_; rintro e w' ⟨rfl, rfl⟩))
                go_round
                case rel => exact ⟨k + 1, by omega, by go_num, fun j hj => by
                  rcases Nat.lt_succ_iff_lt_or_eq.1 hj with h' | rfl
                  · exact hall.out j h'
                  · exact Hok.out⟩
                case measure => simp [intOf]; omega
              · have Hno := Lib.hid (isTree_false (B := L) (P := R) (j := k) (by rw [hLL.out]; exact hlt) (fun h => hpar ((tOk_pos (by omega)).1 h).2))
                go_wp2_with (first | (go_at_call 106; refine (l3Fine_yes _ _ hbag).mono ?_; rintro e w' ⟨rfl, rfl⟩) | (go_at_call 95; refine (l1In_no _ _ _ _ hpar).mono ?_; rintro e w' ⟨rfl, rfl⟩))
                go_ret
                exact ⟨ret_bool Hno.out.symm, by go_grown⟩
          · have Hno := Lib.hid (isTree_false (B := L) (P := R) (j := k) (by rw [hLL.out]; exact hlt) (fun h => hbag (by
              rcases Nat.eq_zero_or_pos k with rfl | h0
              · exact (tOk_zero.1 h).1
              · exact ((tOk_pos h0).1 h).1)))
            go_wp2_with (go_at_call 106; refine (l3Fine_no _ _ hbag).mono ?_; rintro e w' ⟨rfl, rfl⟩)
            go_ret
            exact ⟨ret_bool Hno.out.symm, by go_grown⟩
        · obtain rfl : k = m := by omega
          go_wp2
          go_ret
          exact ⟨ret_bool (isTree_true (by rw [hLL.out]; omega) (by rw [hLL.out]; omega) (by rw [hLL.out, hRR.out]) (by rw [hLL.out]; exact hall.out)).symm, by go_grown⟩
    · have hne : ((m : Int) != n) = true := by simp; omega
      go_enter Tryz.func53, Tryz.ntmps53
      go_wp2_with (go_at_call 95; refine (l1In_yes _ _ _ _ h7').mono ?_; rintro e w' ⟨rfl, rfl⟩)
      go_ret
      exact ⟨ret_bool (isTree_len (by rw [hLL.out, hRR.out]; omega)).symm, by go_grown⟩
  · go_enter Tryz.func53, Tryz.ntmps53
    go_wp2_with (go_at_call 95; refine (l1In_no _ _ _ _ (by omega)).mono ?_; rintro e w' ⟨rfl, rfl⟩)
    go_ret
    exact ⟨ret_bool (isTree_len (by rw [hLL.out, hRR.out]; omega)).symm, by go_grown⟩
end Go.Proofs.YthncdjcmlpiebaaGreatDoor
namespace Go.Proofs.YthncdjcmlpiebaaGreatDoor
open Go.RowKit
set_option maxRecDepth 100000 in
theorem GivesGB.out {N : Int} {n : Nat} {Q : List Nat} {b : Bool} {w : World} {e : Ending} {w' : World} (h : GivesGB N (ints Q) b w e w') (hl : Q.length = n) (h0 : 0 < n) :
    ∃ g d, e = .returned (.tuple #[.agg #[.int .i64 N, .slice (some ⟨g, 0, none⟩) n d], .bool b]) ∧ OwnI w' w.heap.size (some ⟨g, 0, none⟩) n d (ints Q) ∧ Below w.heap.size w w' := by
  obtain ⟨B, d, rfl, hown, hb⟩ := h
  have e : (ints Q).length = n := by rw [ints_len, hl]
  rw [e] at hown ⊢
  obtain ⟨g, rfl⟩ := hown.form h0
  exact ⟨g, d, rfl, hown, hb⟩
end Go.Proofs.YthncdjcmlpiebaaGreatDoor
namespace Go.Proofs.YthncdjcmlpiebaaGreatDoor
open Go.RowKit
set_option maxRecDepth 100000 in
theorem implIsTree_is {A B : Option Addr} {n m ca cb : Nat} {L R : List Int} {w : World} {b : Bool} (hL : RI w A n L) (hR : RI w B m R) (hn : n ≤ 1048576) (hm : m ≤ 1048576) (h : isTree L R = b) :
    Calls Tryz.prog 52 #[.agg #[.slice A n ca, .slice B m cb]] w fun e w' => e = .returned (.bool b) ∧ Below w.heap.size w w' := by subst h; exact implIsTree_any A B n m ca cb L R w hL hR hn hm
set_option maxRecDepth 100000 in
theorem specIsTree_is {A B : Option Addr} {n m ca cb : Nat} {L R : List Int} {w : World} {b : Bool} (hL : RI w A n L) (hR : RI w B m R) (hn : n ≤ 1048576) (hm : m ≤ 1048576) (h : isTree L R = b) :
    Calls Tryz.prog 53 #[.agg #[.slice A n ca, .slice B m cb]] w fun e w' => e = .returned (.bool b) ∧ Below w.heap.size w w' := by subst h; exact specIsTree_any A B n m ca cb L R w hL hR hn hm
set_option maxRecDepth 100000 in
/-- A bag among n vertices, by its bits behind them. -/
theorem shr_bag {b n : Nat} : (b : Int) / 2 ^ n = ((b / p2 n : Nat) : Int) := by
  have h2 : ((2 : Int) ^ n) = ((p2 n : Nat) : Int) := by unfold p2; norm_cast
  rw [h2]; norm_cast
set_option maxRecDepth 100000 in
theorem bag_in {b n : Nat} (h : b < 2 ^ n) : b / p2 n = 0 := Nat.div_eq_of_lt h
set_option maxRecDepth 100000 in
theorem bag_out {b n : Nat} (h : ¬ b < 2 ^ n) : 1 ≤ b / p2 n := (Nat.one_le_div_iff (p2_pos n)).2 (by unfold p2; omega)
set_option maxRecDepth 100000 in
set_option maxHeartbeats 4000000 in
theorem implGraphOfTree_any (A B : Option Addr) (m m' ca cb : Nat) (L R : List Int) (N : Int) (w : World) (hL : RI w A m L) (hR : RI w B m' R) (hm : m ≤ 1048576) (hm' : m' ≤ 1048576) :
    Calls Tryz.prog 37 #[.agg #[.slice A m ca, .slice B m' cb], .int .i64 N] w (GivesGB (goTNum L R N) (goTRows L R N) (hasGoT L R N) w) := by
  have HL := Lib.hid hL.1
  rcases isTree_cases L R with hg | ⟨hg, b, rfl, hb128, hb1, hb20, _⟩
  · have Hg := Lib.hid hg
    have HR := Lib.hid (goT_no (hasGoT_tree (n := N) hg))
    have HB := Lib.hid (hasGoT_tree (n := N) hg)
    clear hg
    rw [HR.out.1, HR.out.2, HB.out]
    go_enter Tryz.func37, Tryz.ntmps37
    go_wp2_with fail
    refine (implIsTree_is (hL.up (by go_grown)) (hR.up (by go_grown)) hm hm' Hg.out).mono ?_
    rintro e w1 ⟨rfl, hb1⟩
    have hU1 : Up w w1 := Up.then_ (by go_grown) hb1
    have hbr := (Blk.new_at (w := w.alloc (.cells #[.slice A m ca, .slice B m' cb] 49)) (t := 29) (cs := #[.int .i64 0, .slice none 0 0]) (g := w.heap.size + 1) (by simp)).up hb1
    have f0 := hbr.frozen 0
    have f1 := hbr.frozen 1
    have hyb := hbr.two
    have hfin := ((hbr.set_ 0 (.int .i64 0)).set_ 1 (.slice none 0 0)).two
    have hbf := (hU1.setCell (p := ⟨w.heap.size + 1, 0, none⟩) (by simp) (.int .i64 0)).setCell (p := ⟨w.heap.size + 1, 1, none⟩) (by simp) (.slice none 0 0)
    go_wp2
    generalize (w1.setCell ⟨w.heap.size + 1, 0, none⟩ (.int .i64 0)).setCell ⟨w.heap.size + 1, 1, none⟩ (.slice none 0 0) = Wf at hfin hbf ⊢
    refine bodyPost_ret (v := .tuple #[.agg #[.int .i64 0, .slice none 0 0], .bool false]) ?_ rfl ?_
    · simp [results, Tryz.results37, go_sem, hfin]
    exact ⟨none, 0, rfl, OwnI.nil_ _ _, hbf⟩
  · have Hg := Lib.hid hg
    clear hg
    by_cases hN : 1 ≤ N ∧ N ≤ 7
    rotate_left
    · have HR := Lib.hid (goT_no (hasGoT_num (B := ints b) (P := R) hN))
      have HB := Lib.hid (hasGoT_num (B := ints b) (P := R) hN)
      rw [HR.out.1, HR.out.2, HB.out]
      go_enter Tryz.func37, Tryz.ntmps37
      go_wp2_with fail
      refine (implIsTree_is (hL.up (by go_grown)) (hR.up (by go_grown)) hm hm' Hg.out).mono ?_
      rintro e w1 ⟨rfl, hb1⟩
      have hU1 : Up w w1 := Up.then_ (by go_grown) hb1
      have hbr := (Blk.new_at (w := w.alloc (.cells #[.slice A m ca, .slice B m' cb] 49)) (t := 29) (cs := #[.int .i64 0, .slice none 0 0]) (g := w.heap.size + 1) (by simp)).up hb1
      have f0 := hbr.frozen 0
      have f1 := hbr.frozen 1
      have hyb := hbr.two
      have hfin := ((hbr.set_ 0 (.int .i64 0)).set_ 1 (.slice none 0 0)).two
      have hbf := (hU1.setCell (p := ⟨w.heap.size + 1, 0, none⟩) (by simp) (.int .i64 0)).setCell (p := ⟨w.heap.size + 1, 1, none⟩) (by simp) (.slice none 0 0)
      go_wp2_with (go_at_call 66; refine (within_no _ _ _ _ hN).mono ?_; rintro e w' ⟨rfl, rfl⟩)
      generalize (w1.setCell ⟨w.heap.size + 1, 0, none⟩ (.int .i64 0)).setCell ⟨w.heap.size + 1, 1, none⟩ (.slice none 0 0) = Wf at hfin hbf ⊢
      refine bodyPost_ret (v := .tuple #[.agg #[.int .i64 0, .slice none 0 0], .bool false]) ?_ rfl ?_
      · simp [results, Tryz.results37, go_sem, hfin]
      exact ⟨none, 0, rfl, OwnI.nil_ _ _, hbf⟩
    · obtain ⟨n, rfl⟩ : ∃ n : Nat, N = n := ⟨N.toNat, by omega⟩
      have h1 : 1 ≤ n := by omega
      have h7 : n ≤ 7 := by omega
      have Hout := Lib.hid fun j (hj : j < b.length) (h : ¬ nb b j < 2 ^ n) => hasGoT_out (P := R) hj h
      have Hyes := Lib.hid fun h => hasGoT_yes (b := b) Hg.out h1 h7 h
      have HT := Lib.hid fun k h => tE_ok (n := n) (B := b) h1 h7 k h
      obtain rfl : m = b.length := by rw [← HL.out, ints_len]
      have H128 := Lib.hid hb128
      clear hb128
      go_enter Tryz.func37, Tryz.ntmps37
      go_wp2_with fail
      refine (implIsTree_is (hL.up (by go_grown)) (hR.up (by go_grown)) hm hm' Hg.out).mono ?_
      rintro e w1 ⟨rfl, hb1⟩
      have hU1 : Up w w1 := Up.then_ (by go_grown) hb1
      replace hL := hL.up hU1
      have hbt := ((Blk.new w 49 #[.slice A b.length ca, .slice B m' cb]).alloc (.cells #[.int .i64 0, .slice none 0 0] 29)).up hb1
      have hbr := (Blk.new_at (w := w.alloc (.cells #[.slice A b.length ca, .slice B m' cb] 49)) (t := 29) (cs := #[.int .i64 0, .slice none 0 0]) (g := w.heap.size + 1) (by simp)).up hb1
      have hmk := make_ints n (by omega)
      have hgn := (Blk.new w1 3 (natCells (tE n b 0))).alloc (.cells #[.int .i64 n, .slice (some ⟨w1.heap.size, 0, none⟩) n n] 29)
      have Hz : natCells (tE n b 0) = zeros n := by rw [tE, natCells_zero]
      have hb5 := Blk.new_at (w := w1.alloc (.cells (natCells (tE n b 0)) 3)) (t := 29) (cs := #[.int .i64 n, .slice (some ⟨w1.heap.size, 0, none⟩) n n]) (g := w1.heap.size + 1) (by simp)
      rw [Hz] at hgn hb5
      have hyt := fun o o' => ((hbt.alloc o).alloc o').two
      have hpp := p2_le h7
      obtain ⟨aL, rfl, _, _⟩ := hL.addr (by omega)
      go_wp2_with (go_at_call 66; refine (within_yes _ _ _ _ hN).mono ?_; rintro e w' ⟨rfl, rfl⟩)
      clear hmk hyt
      go_loopw [27] (fun i wr => ∃ k : Nat, k ≤ b.length ∧ i = .int .i64 k ∧ Blk wr w1.heap.size 3 (natCells (tE n b k)) ∧ Blk wr (w1.heap.size + 1) 29 #[.int .i64 n, .slice (some ⟨w1.heap.size, 0, none⟩) n n] ∧ Below w1.heap.size w1 wr ∧ Hid (∀ j, j < k → nb b j < 2 ^ n)) (fun i _ => b.length - (intOf i).toNat)
      case atStart => exact ⟨0, Nat.zero_le _, rfl, by rw [Hz]; exact hgn, hb5, by go_grown, fun j hj => absurd hj (by omega)⟩
      case round =>
        clear hgn hb5
        obtain ⟨k, hk, rfl, hgn, hb5, hb, hall⟩ := hrel
        obtain ⟨wo, rfl⟩ : ∃ wo : World, wo = wr := ⟨_, rfl⟩
        by_cases hlt : k < b.length
        · have hcl := (hL.up hb).nbs hlt
          have h128 := H128.out k
          by_cases hbag : nb b k < 2 ^ n
          · have hsr : (nb b k : Int) / 2 ^ n = 0 := by rw [shr_bag, bag_in hbag]; rfl
            have HQ := Lib.hid (HT.out k hall.out)
            have HN := Lib.hid (show tE n b (k + 1) = qE (tE n b k) (listOf (nb b k)) (listOf (nb b k)).length from rfl)
            obtain ⟨Q, hQ⟩ : ∃ Q, Q = tE n b k := ⟨_, rfl⟩
            rw [← hQ] at hgn HQ HN
            clear hQ
            obtain ⟨x, hx⟩ : ∃ x, x = nb b k := ⟨_, rfl⟩
            rw [← hx] at hcl h128 hbag hsr HN
            have Hx := Lib.hid hx
            clear hx
            have HV := Lib.hid (listOf_verts hbag)
            have HR := Lib.hid (rE_full HQ.out hbag)
            have HLT := Lib.hid (fun j hj a => rE_lt HQ.out hbag HV.out j hj a)
            have HB := Lib.hid hbag
            have hll := listOf_len x
            have hmem : ∀ j, j < (listOf x).length → nb (listOf x) j < n := fun j hj => HV.out.at_ hj
            have HM := Lib.hid hmem
            clear hmem
            obtain ⟨l, hl⟩ : ∃ l, l = listOf x := ⟨_, rfl⟩
            have Hl := Lib.hid hl
            rw [← hl] at HN HR HLT hll HM HV
            have hg0 : Blk wo w1.heap.size 3 (natCells (rE Q x l 0)) := hgn
            clear hbag hl hgn
            go_wp2_with (go_at_call 86; refine (implListOf_any x _ (by omega)).mono ?_; intro e w3 hg3; obtain ⟨B3, d3, rfl, hown3, hb3⟩ := hg3.out; clear hg3; rw [← Hl.out] at hown3 ⊢)
            have hbase : w1.heap.size < wo.heap.size := by have := hb5.lt; omega
            go_loopw [39] (fun s wr => ∃ j : Nat, j ≤ l.length ∧ s = .int .i64 j ∧ Blk wr w1.heap.size 3 (natCells (rE Q x l j)) ∧ Blk wr (w1.heap.size + 1) 29 #[.int .i64 n, .slice (some ⟨w1.heap.size, 0, none⟩) n n] ∧ Below w1.heap.size w1 wr ∧ OwnI wr wo.heap.size B3 l.length d3 (ints l)) (fun s _ => l.length - (intOf s).toNat)
            case atStart => exact ⟨0, Nat.zero_le _, rfl, hg0.up hb3, hb5.up hb3, Up.then_ hb hb3, hown3⟩
            case round =>
              clear hown3 hg0 hb5 hcl
              obtain ⟨j, hj, rfl, hgn, hb5, hbj, hown⟩ := hrel
              obtain ⟨wj, rfl⟩ : ∃ wj : World, wj = wr := ⟨_, rfl⟩
              by_cases hjt : j < l.length
              · obtain ⟨ad, rfl, hcv⟩ := hown.ri.nb_at hjt
                have hvn := HM.out j hjt
                have hvlt := HLT.out j (by omega) (nb l j)
                have HS := Lib.hid (show rE Q x l (j + 1) = (rE Q x l j).set (nb l j) (nb (rE Q x l j) (nb l j) ||| dif x (2 ^ nb l j)) from rfl)
                have Hlen := Lib.hid (rE_len Q x l j)
                obtain ⟨T, hT⟩ : ∃ T, T = rE Q x l j := ⟨_, rfl⟩
                rw [← hT] at hgn hvlt HS Hlen
                clear hT
                obtain ⟨v, hv⟩ : ∃ v, v = nb l j := ⟨_, rfl⟩
                rw [← hv] at hcv hvn hvlt HS
                clear hv
                have hcx := hgn.nat (j := v) (by rw [Hlen.out, HQ.out.len]; exact hvn)
                have hfx := hgn.frozen v
                have hyb := hb5.two
                have hv7 : nb T v < 128 := HQ.out.n7 hvlt
                have hsh : IntKind.i64.wrap ((2 : Int) ^ v) = ((p2 v : Nat) : Int) := by rw [IntWalk.i64_left]; exact shl_p2 (by omega)
                have hpv := p2_le (k := v) (by omega)
                have hp7 : p2 v < 128 := Nat.pow_lt_pow_right (n := 7) (by omega) (by omega)
                have hdf := i64_dif7 h128 hp7
                have hd7 : dif x (p2 v) < 128 := Nat.lt_of_le_of_lt (dif_le _ _) h128
                have hor := i64_or7 hv7 hd7
                go_wp2_with fail
                go_still_tail 11, (by kernel_rfl)
                change wpList _ _ _ _ _ wj.drew
                have hcx2 : wj.drew.cell? ⟨w1.heap.size, v, none⟩ = some (.int .i64 (nb T v)) := hcx
                have hfx2 : wj.drew.frozen? ⟨w1.heap.size, v, none⟩ = false := hfx
                have hyb2 : wj.drew.cell? ⟨w1.heap.size + 1, 0, none⟩ = some (.int .i64 n) ∧ wj.drew.cell? ⟨w1.heap.size + 1, 1, none⟩ = some (.slice (some ⟨w1.heap.size, 0, none⟩) n n) := hyb
                go_wp2
                go_roundw
                case rel => exact ⟨j + 1, by omega, by go_num, by
                    have := hgn.set_ v (.int .i64 ((nb T v ||| dif x (p2 v) : Nat) : Int))
                    rw [natCells_set] at this
                    rw [HS.out]
                    exact this.drew, (hb5.far (by simp) _).drew, (hbj.setCell (Nat.le_refl _) _).drew, hown.far_store hbase _⟩
                case measure => simp [intOf]; omega
              · obtain rfl : j = l.length := by omega
                rw [HR.out] at hgn
                go_wp2
                go_roundw
                case rel => exact ⟨k + 1, by omega, by go_num, by rw [HN.out]; exact hgn, hb5, hbj, fun i hi => by
                  rcases Nat.lt_succ_iff_lt_or_eq.1 hi with h' | rfl
                  · exact hall.out i h'
                  · rw [← Hx.out]; exact HB.out⟩
                case measure => simp [intOf]; omega
          · have hsr : (nb b k : Int) / 2 ^ n = ((nb b k / p2 n : Nat) : Int) := shr_bag
            have hq1 := bag_out hbag
            have HO := Lib.hid (Hout.out k hlt hbag)
            have HG := Lib.hid (goT_no HO.out)
            rw [HG.out.1, HG.out.2, HO.out]
            obtain ⟨q, hq⟩ : ∃ q, q = nb b k / p2 n := ⟨_, rfl⟩
            rw [← hq] at hsr hq1
            clear hq hbag
            have hne : ((q : Int) != 0) = true := by rw [bne_iff_ne]; omega
            have hbr2 := hbr.up hb
            have f0 := hbr2.frozen 0
            have f1 := hbr2.frozen 1
            have hyr := hbr2.two
            have hfin := ((hbr2.set_ 0 (.int .i64 0)).set_ 1 (.slice none 0 0)).two
            have hbf := ((Up.then_ hU1 hb).setCell (p := ⟨w.heap.size + 1, 0, none⟩) (by simp) (.int .i64 0)).setCell (p := ⟨w.heap.size + 1, 1, none⟩) (by simp) (.slice none 0 0)
            go_wp2
            generalize (wo.setCell ⟨w.heap.size + 1, 0, none⟩ (.int .i64 0)).setCell ⟨w.heap.size + 1, 1, none⟩ (.slice none 0 0) = Wf at hfin hbf ⊢
            refine bodyPost_ret (v := .tuple #[.agg #[.int .i64 0, .slice none 0 0], .bool false]) ?_ rfl ?_
            · simp [results, Tryz.results37, go_sem, hfin]
            exact ⟨none, 0, rfl, OwnI.nil_ _ _, hbf⟩
        · obtain rfl : k = b.length := by omega
          have HG := Lib.hid (Hyes.out hall.out)
          have HQ := Lib.hid (HT.out _ hall.out)
          have hbr2 := hbr.up hb
          have f0 := hbr2.frozen 0
          have f1 := hbr2.frozen 1
          have hyr := hbr2.two
          have hlr := hbr2.lt
          have hyb := hb5.two
          have hw2 := Up.then_ hU1 hb
          have hfin := ((hbr2.set_ 0 (.int .i64 n)).set_ 1 (.slice (some ⟨w1.heap.size, 0, none⟩) n n)).two
          have hgf := (hgn.far (p := ⟨w.heap.size + 1, 0, none⟩) (fun e => by have := hbr.lt; simp at e; omega) (.int .i64 n)).far (p := ⟨w.heap.size + 1, 1, none⟩) (fun e => by have := hbr.lt; simp at e; omega) (.slice (some ⟨w1.heap.size, 0, none⟩) n n)
          have hbf := (hw2.setCell (p := ⟨w.heap.size + 1, 0, none⟩) (by simp) (.int .i64 n)).setCell (p := ⟨w.heap.size + 1, 1, none⟩) (by simp) (.slice (some ⟨w1.heap.size, 0, none⟩) n n)
          go_wp2
          generalize (wo.setCell ⟨w.heap.size + 1, 0, none⟩ (.int .i64 n)).setCell ⟨w.heap.size + 1, 1, none⟩ (.slice (some ⟨w1.heap.size, 0, none⟩) n n) = Wf at hfin hgf hbf ⊢
          refine bodyPost_ret (v := .tuple #[.agg #[.int .i64 n, .slice (some ⟨w1.heap.size, 0, none⟩) n n], .bool true]) ?_ rfl ?_
          · simp [results, Tryz.results37, go_sem, hfin]
          have e : (tE n b b.length).length = n := HQ.out.len
          have ho : OwnI Wf w1.heap.size (some ⟨w1.heap.size, 0, none⟩) n n (ints (tE n b b.length)) := by
            have := hgf.own (base := w1.heap.size) (n := n) (Nat.le_refl _) (by rw [natCells_size]; exact e) (by unfold maxLen; omega)
            exact this
          rw [HG.out.1, HG.out.2.1, HG.out.2.2]
          exact givesGB_of e ho hU1.size hbf
end Go.Proofs.YthncdjcmlpiebaaGreatDoor
