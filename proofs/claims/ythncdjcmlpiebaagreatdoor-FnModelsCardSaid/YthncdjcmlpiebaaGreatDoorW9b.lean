/- Walks of chapter 9, second part. -/
import Derived.Test.YthncdjcmlpiebaaGreatDoorW9
namespace Go.Proofs.YthncdjcmlpiebaaGreatDoor
open Go.RowKit

set_option maxRecDepth 100000 in
set_option maxHeartbeats 400000 in
theorem specIsUnitModel_any (A B : Option Addr) (n m ca cb : Nat) (L R : List Int) (d : Int) (w : World) (hL : RI w A n L) (hR : RI w B m R) (hn : n ≤ 1048576) (hm : m ≤ 1048576) :
    Calls Tryz.prog 29 #[.agg #[.slice A n ca, .slice B m cb], .int .i64 d] w fun e w' => e = .returned (.bool (isUnitModel L R d)) ∧ Below w.heap.size w w' := by
  have hLL := Lib.hid hL.1
  rcases Bool.eq_false_or_eq_true (isModel L R) with hmod | hmod
  · have hMod := Lib.hid hmod
    have hlen := (isModel_spec hmod).2.2.1
    rw [hL.1, hR.1] at hlen
    subst hlen
    clear hmod
    go_enter Tryz.func29, Tryz.ntmps29
    go_wp2_with fail
    go_loopw [5] (fun i wr => ∃ k : Nat, k ≤ m ∧ i = .int .i64 k ∧ Blk wr w.heap.size 26 #[.slice A m ca, .slice B m cb] ∧ Below w.heap.size w wr ∧ Hid (∀ j, j < k → R.getD j 0 - L.getD j 0 = d)) (fun i _ => m - (intOf i).toNat)
    case atStart => exact ⟨0, Nat.zero_le _, rfl, Blk.new _ _ _, by go_grown, fun j h => absurd h (by omega)⟩
    case round =>
      obtain ⟨k, hk, rfl, hblk, hb, hall⟩ := hrel
      obtain ⟨hx0, hx1⟩ := hblk.two
      by_cases hlt : k < m
      · go_wp2_with fail
        refine (specIsModel_is (hL.up hb) (hR.up hb) hn hm hMod.out).mono ?_
        rintro e w1 ⟨rfl, hb1⟩
        have hw1 : Below w.heap.size w w1 := Up.then_ hb hb1
        have hblk1 := hblk.up hb1
        obtain ⟨hy0, hy1⟩ := hblk1.two
        obtain ⟨a, rfl, ha, hca⟩ := (hL.up hw1).at_ hlt
        obtain ⟨b, rfl, hb', hcb⟩ := (hR.up hw1).at_ hlt
        obtain ⟨o1, o2, o3⟩ := model_at hMod.out hLL.out hlt
        by_cases hok : R[k]?.getD 0 - L[k]?.getD 0 = d
        · have Hok := Lib.hid hok
          have hne : (R[k]?.getD 0 - L[k]?.getD 0 != d) = false := by simpa using hok
          clear hok
          go_wp2_with fail
          go_quiet (fail)
          go_wp2
          go_roundw
          case rel => exact ⟨k + 1, by omega, by go_num, hblk1.drewN _, below_drewN hw1 _, fun j hj => by
            rcases Nat.lt_succ_iff_lt_or_eq.1 hj with h' | rfl
            · exact hall.out j h'
            · exact Hok.out⟩
          case measure => simp [intOf]; omega
        · have Hno := Lib.hid (isUnitModel_false (L := L) (R := R) (d := d) (j := k) (by rw [hLL.out]; exact hlt) hok)
          have hne : (R[k]?.getD 0 - L[k]?.getD 0 != d) = true := by simpa using hok
          go_wp2_with fail
          go_quiet (fail)
          go_wp2
          go_ret
          exact ⟨ret_bool Hno.out.symm, below_drewN hw1 _⟩
      · obtain rfl : k = m := by omega
        go_wp2_with fail
        refine (specIsModel_is (hL.up hb) (hR.up hb) hn hm hMod.out).mono ?_
        rintro e w1 ⟨rfl, hb1⟩
        go_wp2
        go_ret
        exact ⟨ret_bool (isUnitModel_true hMod.out (by rw [hLL.out]; exact hall.out)).symm, Up.then_ hb hb1⟩
  · have Hno := Lib.hid (isUnitModel_no (d := d) hmod)
    have hMod := Lib.hid hmod
    clear hmod
    by_cases h0 : n = 0
    · subst h0
      go_enter Tryz.func29, Tryz.ntmps29
      go_wp2_with fail
      refine wp_loop_rounds 1 ?_
      rw [rounds_succ]
      go_wp2_with fail
      refine (specIsModel_is (hL.up (by go_grown)) (hR.up (by go_grown)) hn hm hMod.out).mono ?_
      rintro e w1 ⟨rfl, hb1⟩
      go_wp2
      go_ret
      exact ⟨ret_bool Hno.out.symm, Up.then_ (by go_grown) hb1⟩
    · have hpos : 0 < n := by omega
      go_enter Tryz.func29, Tryz.ntmps29
      go_wp2_with fail
      refine wp_loop_rounds 1 ?_
      rw [rounds_succ]
      go_wp2_with fail
      refine (specIsModel_is (hL.up (by go_grown)) (hR.up (by go_grown)) hn hm hMod.out).mono ?_
      rintro e w1 ⟨rfl, hb1⟩
      have hw1 : Below w.heap.size w w1 := Up.then_ (by go_grown) hb1
      obtain ⟨hc1, hf1⟩ := bcell hb1
      have hz1 := hb1.size
      try simp only [World.size_alloc] at hz1
      try simp only [World.size_setCell] at hz1
      try simp only [World.size_alloc] at hz1
      try simp only [World.size_drew] at hz1
      have hl1_0 : w.heap.size < w1.heap.size := by omega
      go_wp2_with fail
      refine (specIsModel_is (hL.up (by go_grown)) (hR.up (by go_grown)) hn hm hMod.out).mono ?_
      rintro e w2 ⟨rfl, hb2⟩
      have hw2 : Below w.heap.size w w2 := Up.then_ (by go_grown) hb2
      obtain ⟨hc2, hf2⟩ := bcell hb2
      have hz2 := hb2.size
      try simp only [World.size_alloc] at hz2
      try simp only [World.size_setCell] at hz2
      try simp only [World.size_alloc] at hz2
      try simp only [World.size_drew] at hz2
      have hl2_0 : w.heap.size < w2.heap.size := by omega
      go_wp2
      go_ret
      exact ⟨ret_bool Hno.out.symm, by go_grown⟩

set_option maxRecDepth 100000 in
set_option maxHeartbeats 400000 in
theorem specPointsCovered_any (A B : Option Addr) (n m ca cb : Nat) (L R : List Int) (x : Int) (w : World) (hL : RI w A n L) (hR : RI w B m R) (hn : n ≤ 1048576) (hm : m ≤ 1048576) :
    Calls Tryz.prog 31 #[.agg #[.slice A n ca, .slice B m cb], .int .i64 x] w fun e w' => e = .returned (.int .i64 (pointsCovered L R x)) ∧ Below w.heap.size w w' := by
  have hLL := Lib.hid hL.1
  rcases Bool.eq_false_or_eq_true (isModel L R) with hmod | hmod
  · have hMod := Lib.hid hmod
    have h7 := (isModel_spec hmod).2.1
    have hlen := (isModel_spec hmod).2.2.1
    rw [hL.1] at h7
    rw [hL.1, hR.1] at hlen
    subst hlen
    clear hmod
    go_enter Tryz.func31, Tryz.ntmps31
    go_wp2_with fail
    go_loopw [5, 6] (fun s i wr => ∃ k : Nat, k ≤ m ∧ i = .int .i64 k ∧ s = .int .i64 (pcK L R x k) ∧ Blk wr w.heap.size 26 #[.slice A m ca, .slice B m cb] ∧ Below w.heap.size w wr) (fun _ i _ => m - (intOf i).toNat)
    case atStart => exact ⟨0, Nat.zero_le _, rfl, rfl, Blk.new _ _ _, by go_grown⟩
    case round =>
      obtain ⟨k, hk, rfl, rfl, hblk, hb⟩ := hrel
      have hpl := pcK_small L R x (k := k) (by omega)
      have hpl2 := Nat.lt_of_lt_of_le (pcK_lt L R x k) (Nat.pow_le_pow_right (n := 2) (by omega) (show k ≤ 7 by omega))
      obtain ⟨hx0, hx1⟩ := hblk.two
      by_cases hlt : k < m
      · go_wp2_with fail
        refine (specIsModel_is (hL.up hb) (hR.up hb) hn hm hMod.out).mono ?_
        rintro e w1 ⟨rfl, hb1⟩
        have hw1 : Below w.heap.size w w1 := Up.then_ hb hb1
        have hblk1 := hblk.up hb1
        obtain ⟨hy0, hy1⟩ := hblk1.two
        obtain ⟨a, rfl, ha, hca⟩ := (hL.up hw1).at_ hlt
        obtain ⟨b, rfl, hb', hcb⟩ := (hR.up hw1).at_ hlt
        by_cases hok : L[k]?.getD 0 ≤ x ∧ x ≤ R[k]?.getD 0
        · have hp := pow_wrap k (by omega)
          have Hp := Lib.hid hp
          clear hp
          go_wp2
          go_roundw
          case rel => exact ⟨k + 1, by omega, by go_num, by rw [pcK_yes hok, Hp.out, ← add_wrap _ _ (by omega) (pow_le7 (by omega))], hblk1, hw1⟩
          case measure => simp [intOf]; omega
        · go_wp2
          all_goals go_roundw
          all_goals first | exact ⟨k + 1, by omega, by go_num, by rw [pcK_nay hok], hblk1, hw1⟩ | (simp [intOf]; omega)
      · obtain rfl : k = m := by omega
        go_wp2
        go_ret
        exact ⟨ret_int (by rw [pointsCovered, if_pos hMod.out, hLL.out]), hb⟩
  · have hMod := Lib.hid hmod
    clear hmod
    by_cases h0 : n = 0
    · subst h0
      go_enter Tryz.func31, Tryz.ntmps31
      go_wp2_with fail
      refine wp_loop_rounds 1 ?_
      rw [rounds_succ]
      go_wp2
      go_ret
      exact ⟨ret_int (by rw [pointsCovered, hMod.out]; rfl), by go_grown⟩
    · have hpos : 0 < n := by omega
      go_enter Tryz.func31, Tryz.ntmps31
      go_wp2_with fail
      refine wp_loop_rounds 1 ?_
      rw [rounds_succ]
      go_wp2_with fail
      refine (specIsModel_is (hL.up (by go_grown)) (hR.up (by go_grown)) hn hm hMod.out).mono ?_
      rintro e w1 ⟨rfl, hb1⟩
      have hw1 : Below w.heap.size w w1 := Up.then_ (by go_grown) hb1
      obtain ⟨hc1, hf1⟩ := bcell hb1
      have hz1 := hb1.size
      try simp only [World.size_alloc] at hz1
      try simp only [World.size_setCell] at hz1
      try simp only [World.size_alloc] at hz1
      try simp only [World.size_drew] at hz1
      have hl1_0 : w.heap.size < w1.heap.size := by omega
      go_wp2
      go_ret
      exact ⟨ret_int (by rw [pointsCovered, hMod.out]; rfl), by go_grown⟩

set_option maxRecDepth 100000 in
set_option maxHeartbeats 800000 in
theorem implIsProperModel_any (A B : Option Addr) (n m ca cb : Nat) (L R : List Int) (w : World) (hL : RI w A n L) (hR : RI w B m R) (hn : n ≤ 1048576) (hm : m ≤ 1048576) :
    Calls Tryz.prog 23 #[.agg #[.slice A n ca, .slice B m cb]] w fun e w' => e = .returned (.bool (isProperModel L R)) ∧ Below w.heap.size w w' := by
  have hLL := Lib.hid hL.1
  rcases Bool.eq_false_or_eq_true (isModel L R) with hmod | hmod
  · have hMod := Lib.hid hmod
    have hlen := (isModel_spec hmod).2.2.1
    rw [hL.1, hR.1] at hlen
    subst hlen
    clear hmod
    go_enter Tryz.func23, Tryz.ntmps23
    go_wp2_with fail
    refine (implIsModel_is (hL.up (by go_grown)) (hR.up (by go_grown)) hn hm hMod.out).mono ?_
    rintro e w1 ⟨rfl, hb1⟩
    have hw1 : Below w.heap.size w w1 := Up.then_ (by go_grown) hb1
    obtain ⟨hc1, hf1⟩ := bcell hb1
    have hz1 := hb1.size
    try simp only [World.size_alloc] at hz1
    try simp only [World.size_setCell] at hz1
    try simp only [World.size_alloc] at hz1
    try simp only [World.size_drew] at hz1
    have hl1_0 : w.heap.size < w1.heap.size := by omega
    have hblk1 := (Blk.new w 26 #[.slice A m ca, .slice B m cb]).up hb1
    obtain ⟨hx0, hx1⟩ := hblk1.two
    go_wp2
    go_loopw [11] (fun s wr => ∃ i : Nat, i ≤ m ∧ s = .int .i64 i ∧ Blk wr w.heap.size 26 #[.slice A m ca, .slice B m cb] ∧ Below w.heap.size w wr ∧ Hid (∀ a, a < i → ∀ b, b < m → ¬ (a ≠ b ∧ L.getD a 0 ≤ L.getD b 0 ∧ R.getD b 0 ≤ R.getD a 0))) (fun s _ => m - (intOf s).toNat)
    case atStart => exact ⟨0, Nat.zero_le _, rfl, hblk1, by go_grown, fun j h => absurd h (by omega)⟩
    case round =>
      obtain ⟨i, hi, rfl, hblk, hb, hall⟩ := hrel
      obtain ⟨wo, rfl⟩ : ∃ wo : World, wo = wr := ⟨_, rfl⟩
      obtain ⟨hx0, hx1⟩ := hblk.two
      by_cases hlt : i < m
      · go_wp2_with fail
        go_loopw [17] (fun s wr => ∃ k : Nat, k ≤ m ∧ s = .int .i64 k ∧ Blk wr w.heap.size 26 #[.slice A m ca, .slice B m cb] ∧ Below w.heap.size w wr ∧ Hid (∀ b, b < k → ¬ (i ≠ b ∧ L.getD i 0 ≤ L.getD b 0 ∧ R.getD b 0 ≤ R.getD i 0))) (fun s _ => m - (intOf s).toNat)
        case atStart => exact ⟨0, Nat.zero_le _, rfl, hblk, hb, fun j h => absurd h (by omega)⟩
        case round =>
          obtain ⟨k, hk, rfl, hblk2, hb2, hall2⟩ := hrel
          obtain ⟨hy0, hy1⟩ := hblk2.two
          by_cases hkt : k < m
          · obtain ⟨a, rfl, ha, hca⟩ := (hL.up hb2).at_ hlt
            obtain ⟨a', e', ha', hca'⟩ := (hL.up hb2).at_ hkt
            injection e' with e'
            subst e'
            obtain ⟨b, rfl, hb', hcb⟩ := (hR.up hb2).at_ hlt
            obtain ⟨b', e', hb'', hcb'⟩ := (hR.up hb2).at_ hkt
            injection e' with e'
            subst e'
            by_cases hC : i ≠ k ∧ L.getD i 0 ≤ L.getD k 0 ∧ R.getD k 0 ≤ R.getD i 0
            · have Hno := Lib.hid (isProperModel_false (L := L) (R := R) (i := i) (k := k) (by rw [hLL.out]; exact hlt) (by rw [hLL.out]; exact hkt) hC)
              obtain ⟨c1, c2, c3⟩ := hC
              have d1 : ((i : Int) != k) = true := by simp; omega
              have d2 : L[i]?.getD 0 ≤ L[k]?.getD 0 := c2
              have d3 : R[k]?.getD 0 ≤ R[i]?.getD 0 := c3
              clear c1 c2 c3
              go_wp2_with fail
              go_quiet (fail)
              go_wp2
              go_ret
              exact ⟨ret_bool Hno.out.symm, below_drewN hb2 _⟩
            · have HC := Lib.hid hC
              by_cases c1 : i = k
              · subst c1
                clear hC
                go_wp2_with fail
                go_quiet (fail)
                go_wp2
                go_roundw
                case rel => exact ⟨i + 1, by omega, by go_num, hblk2.drewN _, below_drewN hb2 _, fun j hj => by
                  rcases Nat.lt_succ_iff_lt_or_eq.1 hj with h' | rfl
                  · exact hall2.out j h'
                  · exact HC.out⟩
                case measure => simp [intOf]; omega
              · have d1 : ((i : Int) != k) = true := by simp; omega
                by_cases c2 : L[i]?.getD 0 ≤ L[k]?.getD 0
                · have d3 : decide (R[k]?.getD 0 ≤ R[i]?.getD 0) = false := by
                    simp only [decide_eq_false_iff_not]
                    exact fun h => hC ⟨c1, c2, h⟩
                  clear hC c1
                  go_wp2_with fail
                  go_quiet (fail)
                  go_wp2
                  go_roundw
                  case rel => exact ⟨k + 1, by omega, by go_num, hblk2.drewN _, below_drewN hb2 _, fun j hj => by
                    rcases Nat.lt_succ_iff_lt_or_eq.1 hj with h' | rfl
                    · exact hall2.out j h'
                    · exact HC.out⟩
                  case measure => simp [intOf]; omega
                · have d2 : decide (L[i]?.getD 0 ≤ L[k]?.getD 0) = false := by simp only [decide_eq_false_iff_not]; exact c2
                  clear hC c1 c2
                  go_wp2_with fail
                  go_quiet (fail)
                  go_wp2
                  go_roundw
                  case rel => exact ⟨k + 1, by omega, by go_num, hblk2.drewN _, below_drewN hb2 _, fun j hj => by
                    rcases Nat.lt_succ_iff_lt_or_eq.1 hj with h' | rfl
                    · exact hall2.out j h'
                    · exact HC.out⟩
                  case measure => simp [intOf]; omega
          · obtain rfl : k = m := by omega
            go_wp2
            go_roundw
            case rel => exact ⟨i + 1, by omega, by go_num, hblk2, hb2, fun a ha => by
              rcases Nat.lt_succ_iff_lt_or_eq.1 ha with h' | rfl
              · exact hall.out a h'
              · exact hall2.out⟩
            case measure => simp [intOf]; omega
      · obtain rfl : i = m := by omega
        go_wp2
        go_ret
        exact ⟨ret_bool (isProperModel_true hMod.out (by rw [hLL.out]; exact hall.out)).symm, hb⟩
  · have Hno := Lib.hid (isProperModel_no hmod)
    have hMod := Lib.hid hmod
    clear hmod
    go_enter Tryz.func23, Tryz.ntmps23
    go_wp2_with fail
    refine (implIsModel_is (hL.up (by go_grown)) (hR.up (by go_grown)) hn hm hMod.out).mono ?_
    rintro e w1 ⟨rfl, hb1⟩
    have hw1 : Below w.heap.size w w1 := Up.then_ (by go_grown) hb1
    obtain ⟨hc1, hf1⟩ := bcell hb1
    have hz1 := hb1.size
    try simp only [World.size_alloc] at hz1
    try simp only [World.size_setCell] at hz1
    try simp only [World.size_alloc] at hz1
    try simp only [World.size_drew] at hz1
    have hl1_0 : w.heap.size < w1.heap.size := by omega
    go_wp2
    go_ret
    exact ⟨ret_bool Hno.out.symm, by go_grown⟩

set_option maxRecDepth 100000 in
set_option maxHeartbeats 800000 in
theorem specIsProperModel_any (A B : Option Addr) (n m ca cb : Nat) (L R : List Int) (w : World) (hL : RI w A n L) (hR : RI w B m R) (hn : n ≤ 1048576) (hm : m ≤ 1048576) :
    Calls Tryz.prog 30 #[.agg #[.slice A n ca, .slice B m cb]] w fun e w' => e = .returned (.bool (isProperModel L R)) ∧ Below w.heap.size w w' := by
  have hLL := Lib.hid hL.1
  rcases Bool.eq_false_or_eq_true (isModel L R) with hmod | hmod
  · have hMod := Lib.hid hmod
    have hlen := (isModel_spec hmod).2.2.1
    rw [hL.1, hR.1] at hlen
    subst hlen
    clear hmod
    go_enter Tryz.func30, Tryz.ntmps30
    go_wp2_with fail
    go_loopw [3] (fun s wr => ∃ i : Nat, i ≤ m ∧ s = .int .i64 i ∧ Blk wr w.heap.size 26 #[.slice A m ca, .slice B m cb] ∧ Below w.heap.size w wr ∧ Hid (∀ a, a < i → ∀ b, b < m → ¬ (a ≠ b ∧ L.getD a 0 ≤ L.getD b 0 ∧ R.getD b 0 ≤ R.getD a 0))) (fun s _ => m - (intOf s).toNat)
    case atStart => exact ⟨0, Nat.zero_le _, rfl, Blk.new _ _ _, by go_grown, fun j h => absurd h (by omega)⟩
    case round =>
      obtain ⟨i, hi, rfl, hblk, hb, hall⟩ := hrel
      obtain ⟨wo, rfl⟩ : ∃ wo : World, wo = wr := ⟨_, rfl⟩
      obtain ⟨hx0, hx1⟩ := hblk.two
      by_cases hlt : i < m
      · go_wp2_with fail
        refine (specIsModel_is (hL.up hb) (hR.up hb) hn hm hMod.out).mono ?_
        rintro e w1 ⟨rfl, hb1⟩
        have hw1 : Below w.heap.size w w1 := Up.then_ hb hb1
        have hblk1 := hblk.up hb1
        obtain ⟨hz0, hz1⟩ := hblk1.two
        go_wp2_with fail
        go_loopw [4] (fun s wr => ∃ k : Nat, k ≤ m ∧ s = .int .i64 k ∧ Blk wr w.heap.size 26 #[.slice A m ca, .slice B m cb] ∧ Below w.heap.size w wr ∧ Hid (∀ b, b < k → ¬ (i ≠ b ∧ L.getD i 0 ≤ L.getD b 0 ∧ R.getD b 0 ≤ R.getD i 0))) (fun s _ => m - (intOf s).toNat)
        case atStart => exact ⟨0, Nat.zero_le _, rfl, hblk1, hw1, fun j h => absurd h (by omega)⟩
        case round =>
          obtain ⟨k, hk, rfl, hblk2, hb2, hall2⟩ := hrel
          obtain ⟨hy0, hy1⟩ := hblk2.two
          by_cases hkt : k < m
          · obtain ⟨a, rfl, ha, hca⟩ := (hL.up hb2).at_ hlt
            obtain ⟨a', e', ha', hca'⟩ := (hL.up hb2).at_ hkt
            injection e' with e'
            subst e'
            obtain ⟨b, rfl, hb', hcb⟩ := (hR.up hb2).at_ hlt
            obtain ⟨b', e', hb'', hcb'⟩ := (hR.up hb2).at_ hkt
            injection e' with e'
            subst e'
            by_cases hC : i ≠ k ∧ L.getD i 0 ≤ L.getD k 0 ∧ R.getD k 0 ≤ R.getD i 0
            · have Hno := Lib.hid (isProperModel_false (L := L) (R := R) (i := i) (k := k) (by rw [hLL.out]; exact hlt) (by rw [hLL.out]; exact hkt) hC)
              obtain ⟨c1, c2, c3⟩ := hC
              have d1 : ((i : Int) != k) = true := by simp; omega
              have d2 : L[i]?.getD 0 ≤ L[k]?.getD 0 := c2
              have d3 : R[k]?.getD 0 ≤ R[i]?.getD 0 := c3
              clear c1 c2 c3
              go_wp2_with fail
              go_quiet (fail)
              go_wp2
              go_ret
              exact ⟨ret_bool Hno.out.symm, below_drewN hb2 _⟩
            · have HC := Lib.hid hC
              by_cases c1 : i = k
              · subst c1
                clear hC
                go_wp2_with fail
                go_quiet (fail)
                go_wp2
                go_roundw
                case rel => exact ⟨i + 1, by omega, by go_num, hblk2.drewN _, below_drewN hb2 _, fun j hj => by
                  rcases Nat.lt_succ_iff_lt_or_eq.1 hj with h' | rfl
                  · exact hall2.out j h'
                  · exact HC.out⟩
                case measure => simp [intOf]; omega
              · have d1 : ((i : Int) != k) = true := by simp; omega
                by_cases c2 : L[i]?.getD 0 ≤ L[k]?.getD 0
                · have d3 : decide (R[k]?.getD 0 ≤ R[i]?.getD 0) = false := by
                    simp only [decide_eq_false_iff_not]
                    exact fun h => hC ⟨c1, c2, h⟩
                  clear hC c1
                  go_wp2_with fail
                  go_quiet (fail)
                  go_wp2
                  go_roundw
                  case rel => exact ⟨k + 1, by omega, by go_num, hblk2.drewN _, below_drewN hb2 _, fun j hj => by
                    rcases Nat.lt_succ_iff_lt_or_eq.1 hj with h' | rfl
                    · exact hall2.out j h'
                    · exact HC.out⟩
                  case measure => simp [intOf]; omega
                · have d2 : decide (L[i]?.getD 0 ≤ L[k]?.getD 0) = false := by simp only [decide_eq_false_iff_not]; exact c2
                  clear hC c1 c2
                  go_wp2_with fail
                  go_quiet (fail)
                  go_wp2
                  go_roundw
                  case rel => exact ⟨k + 1, by omega, by go_num, hblk2.drewN _, below_drewN hb2 _, fun j hj => by
                    rcases Nat.lt_succ_iff_lt_or_eq.1 hj with h' | rfl
                    · exact hall2.out j h'
                    · exact HC.out⟩
                  case measure => simp [intOf]; omega
          · obtain rfl : k = m := by omega
            go_wp2
            go_roundw
            case rel => exact ⟨i + 1, by omega, by go_num, hblk2, hb2, fun a ha => by
              rcases Nat.lt_succ_iff_lt_or_eq.1 ha with h' | rfl
              · exact hall.out a h'
              · exact hall2.out⟩
            case measure => simp [intOf]; omega
      · obtain rfl : i = m := by omega
        go_wp2_with fail
        refine (specIsModel_is (hL.up hb) (hR.up hb) hn hm hMod.out).mono ?_
        rintro e w1 ⟨rfl, hb1⟩
        go_wp2
        go_ret
        exact ⟨ret_bool (isProperModel_true hMod.out (by rw [hLL.out]; exact hall.out)).symm, Up.then_ hb hb1⟩
  · have Hno := Lib.hid (isProperModel_no hmod)
    have hMod := Lib.hid hmod
    clear hmod
    by_cases h0 : n = 0
    · subst h0
      go_enter Tryz.func30, Tryz.ntmps30
      go_wp2_with fail
      refine wp_loop_rounds 1 ?_
      rw [rounds_succ]
      go_wp2_with fail
      refine (specIsModel_is (hL.up (by go_grown)) (hR.up (by go_grown)) hn hm hMod.out).mono ?_
      rintro e w1 ⟨rfl, hb1⟩
      have hw1 : Below w.heap.size w w1 := Up.then_ (by go_grown) hb1
      obtain ⟨hc1, hf1⟩ := bcell hb1
      have hz1 := hb1.size
      try simp only [World.size_alloc] at hz1
      try simp only [World.size_setCell] at hz1
      try simp only [World.size_alloc] at hz1
      try simp only [World.size_drew] at hz1
      have hl1_0 : w.heap.size < w1.heap.size := by omega
      go_wp2
      go_ret
      exact ⟨ret_bool Hno.out.symm, by go_grown⟩
    · have hpos : 0 < n := by omega
      go_enter Tryz.func30, Tryz.ntmps30
      go_wp2_with fail
      refine wp_loop_rounds 1 ?_
      rw [rounds_succ]
      go_wp2_with fail
      refine (specIsModel_is (hL.up (by go_grown)) (hR.up (by go_grown)) hn hm hMod.out).mono ?_
      rintro e w1 ⟨rfl, hb1⟩
      have hw1 : Below w.heap.size w w1 := Up.then_ (by go_grown) hb1
      obtain ⟨hc1, hf1⟩ := bcell hb1
      have hz1 := hb1.size
      try simp only [World.size_alloc] at hz1
      try simp only [World.size_setCell] at hz1
      try simp only [World.size_alloc] at hz1
      try simp only [World.size_drew] at hz1
      have hl1_0 : w.heap.size < w1.heap.size := by omega
      go_wp2_with fail
      refine (specIsModel_is (hL.up (by go_grown)) (hR.up (by go_grown)) hn hm hMod.out).mono ?_
      rintro e w2 ⟨rfl, hb2⟩
      have hw2 : Below w.heap.size w w2 := Up.then_ (by go_grown) hb2
      obtain ⟨hc2, hf2⟩ := bcell hb2
      have hz2 := hb2.size
      try simp only [World.size_alloc] at hz2
      try simp only [World.size_setCell] at hz2
      try simp only [World.size_alloc] at hz2
      try simp only [World.size_drew] at hz2
      have hl2_0 : w.heap.size < w2.heap.size := by omega
      go_wp2
      go_ret
      exact ⟨ret_bool Hno.out.symm, by go_grown⟩
end Go.Proofs.YthncdjcmlpiebaaGreatDoor
