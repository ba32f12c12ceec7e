/- Walks of chapter 9: models by intervals, in the program and in the reference. -/
import Derived.Test.YthncdjcmlpiebaaGreatDoorBasA
import Derived.Test.YthncdjcmlpiebaaGreatDoorPurA
namespace Go.Proofs.YthncdjcmlpiebaaGreatDoor
open Go.RowKit

set_option maxRecDepth 100000 in
theorem within_any (n lo hi : Int) (w : World) : Calls Tryz.prog 66 #[.int .i64 n, .int .i64 lo, .int .i64 hi] w fun e w' => e = .returned (.bool (decide (lo ≤ n) && decide (n ≤ hi))) ∧ w = w' := by
  go_enter Tryz.func66, Tryz.ntmps66
  go_wp2
  all_goals (go_ret; simp [*])
  all_goals omega
set_option maxRecDepth 100000 in
theorem within_yes (n lo hi : Int) (w : World) (h : lo ≤ n ∧ n ≤ hi) : Calls Tryz.prog 66 #[.int .i64 n, .int .i64 lo, .int .i64 hi] w fun e w' => e = .returned (.bool true) ∧ w = w' :=
  (within_any n lo hi w).mono fun _ _ hh => ⟨by rw [hh.1]; simp [h], hh.2⟩
set_option maxRecDepth 100000 in
theorem within_no (n lo hi : Int) (w : World) (h : ¬ (lo ≤ n ∧ n ≤ hi)) : Calls Tryz.prog 66 #[.int .i64 n, .int .i64 lo, .int .i64 hi] w fun e w' => e = .returned (.bool false) ∧ w = w' :=
  (within_any n lo hi w).mono fun _ _ hh => ⟨by rw [hh.1]; simp; omega, hh.2⟩
set_option maxRecDepth 100000 in
theorem l1In_any (n lo hi : Int) (w : World) : Calls Tryz.prog 95 #[.int .i64 n, .int .i64 lo, .int .i64 hi] w fun e w' => e = .returned (.bool (decide (lo ≤ n) && decide (n ≤ hi))) ∧ w = w' := by
  go_enter Tryz.func95, Tryz.ntmps95
  go_wp2
  all_goals (go_ret; simp [*])
  all_goals omega
set_option maxRecDepth 100000 in
theorem l1In_yes (n lo hi : Int) (w : World) (h : lo ≤ n ∧ n ≤ hi) : Calls Tryz.prog 95 #[.int .i64 n, .int .i64 lo, .int .i64 hi] w fun e w' => e = .returned (.bool true) ∧ w' = w :=
  (l1In_any n lo hi w).mono fun _ _ hh => ⟨by rw [hh.1]; simp [h], hh.2.symm⟩
set_option maxRecDepth 100000 in
theorem l1In_no (n lo hi : Int) (w : World) (h : ¬ (lo ≤ n ∧ n ≤ hi)) : Calls Tryz.prog 95 #[.int .i64 n, .int .i64 lo, .int .i64 hi] w fun e w' => e = .returned (.bool false) ∧ w' = w :=
  (l1In_any n lo hi w).mono fun _ _ hh => ⟨by rw [hh.1]; simp; omega, hh.2.symm⟩

set_option maxRecDepth 100000 in
set_option maxHeartbeats 400000 in
theorem implIsModel_any (A B : Option Addr) (n m ca cb : Nat) (L R : List Int) (w : World) (hL : RI w A n L) (hR : RI w B m R) (hn : n ≤ 1048576) (hm : m ≤ 1048576) :
    Calls Tryz.prog 15 #[.agg #[.slice A n ca, .slice B m cb]] w fun e w' => e = .returned (.bool (isModel L R)) ∧ Below w.heap.size w w' := by
  have hLL := Lib.hid hL.1
  have hRR := Lib.hid hR.1
  by_cases h7 : 1 ≤ n ∧ n ≤ 7
  · obtain ⟨h1, h2⟩ := h7
    by_cases hmn : m = n
    · subst hmn
      go_enter Tryz.func15, Tryz.ntmps15
      go_wp2_with (go_at_call 66; refine (within_any _ _ _ _).mono ?_; rintro e w' ⟨rfl, rfl⟩)
      go_loop [22] (fun i => ∃ k : Nat, k ≤ m ∧ i = .int .i64 k ∧ Hid (∀ j, j < k → mOk (L.getD j 0) (R.getD j 0) = true)) (fun i => m - (intOf i).toNat)
      case atStart => exact ⟨0, Nat.zero_le _, rfl, fun j h => absurd h (by omega)⟩
      case round =>
        obtain ⟨k, hk, rfl, hall⟩ := hrel
        by_cases hlt : k < m
        · obtain ⟨a, rfl, hca⟩ := hL.after hlt
          obtain ⟨b, rfl, hcb⟩ := hR.after hlt
          by_cases hok : 0 ≤ L[k]?.getD 0 ∧ L[k]?.getD 0 ≤ R[k]?.getD 0 ∧ R[k]?.getD 0 ≤ 99
          · go_wp2
            go_round
            case rel => exact ⟨k + 1, by omega, by go_num, fun j hj => by
              rcases Nat.lt_succ_iff_lt_or_eq.1 hj with h' | rfl
              · exact hall.out j h'
              · exact mOk_iff.2 hok⟩
            case measure => simp [intOf]; omega
          · have hno := isModel_false (L := L) (R := R) (j := k) (by rw [hLL.out]; exact hlt) (mOk_no hok)
            have Hno := Lib.hid hno
            clear hno
            go_wp2
            all_goals (go_ret; exact ⟨ret_bool Hno.out.symm, by go_grown⟩)
        · obtain rfl : k = m := by omega
          go_wp2
          go_ret
          exact ⟨ret_bool (isModel_true (by rw [hLL.out]; omega) (by rw [hLL.out]; omega) (by rw [hLL.out, hRR.out]) (by rw [hLL.out]; exact hall.out)).symm, by go_grown⟩
    · have hne : ((m : Int) != n) = true := by simp; omega
      go_enter Tryz.func15, Tryz.ntmps15
      go_wp2_with (go_at_call 66; refine (within_any _ _ _ _).mono ?_; rintro e w' ⟨rfl, rfl⟩)
      go_ret
      exact ⟨ret_bool (isModel_len (by rw [hLL.out, hRR.out]; omega)).symm, by go_grown⟩
  · go_enter Tryz.func15, Tryz.ntmps15
    go_wp2_with (go_at_call 66; refine (within_any _ _ _ _).mono ?_; rintro e w' ⟨rfl, rfl⟩)
    go_ret
    exact ⟨ret_bool (isModel_len (by rw [hLL.out, hRR.out]; omega)).symm, by go_grown⟩

set_option maxRecDepth 100000 in
set_option maxHeartbeats 400000 in
theorem specIsModel_any (A B : Option Addr) (n m ca cb : Nat) (L R : List Int) (w : World) (hL : RI w A n L) (hR : RI w B m R) (hn : n ≤ 1048576) (hm : m ≤ 1048576) :
    Calls Tryz.prog 61 #[.agg #[.slice A n ca, .slice B m cb]] w fun e w' => e = .returned (.bool (isModel L R)) ∧ Below w.heap.size w w' := by
  have hLL := Lib.hid hL.1
  have hRR := Lib.hid hR.1
  go_enter Tryz.func61, Tryz.ntmps61
  go_wp2_with fail
  go_loopw [3] (fun i wr => ∃ k : Nat, k ≤ n ∧ k ≤ m ∧ i = .int .i64 k ∧ Blk wr w.heap.size 26 #[.slice A n ca, .slice B m cb] ∧ Below w.heap.size w wr ∧ Hid (∀ j, j < k → mOk (L.getD j 0) (R.getD j 0) = true)) (fun i _ => n - (intOf i).toNat)
  case atStart => exact ⟨0, Nat.zero_le _, Nat.zero_le _, rfl, Blk.new _ _ _, by go_grown, fun j h => absurd h (by omega)⟩
  case round =>
    obtain ⟨k, hk, hk', rfl, hblk, hb, hall⟩ := hrel
    obtain ⟨hx0, hx1⟩ := hblk.two
    by_cases hlt : k < n ∧ k < m
    · obtain ⟨hlt, hlt'⟩ := hlt
      obtain ⟨a, rfl, ha, hca⟩ := (hL.up hb).at_ hlt
      obtain ⟨b, rfl, hb', hcb⟩ := (hR.up hb).at_ hlt'
      by_cases hok : 0 ≤ L[k]?.getD 0 ∧ L[k]?.getD 0 ≤ R[k]?.getD 0 ∧ R[k]?.getD 0 ≤ 99
      · go_wp2_with fail
        go_quiet ((go_at_call 95; exact Calls.quiet_of_same (l1In_yes _ _ _ _ (by omega))))
        go_wp2
        go_roundw
        case rel => exact ⟨k + 1, by omega, by omega, by go_num, hblk.drewN _, below_drewN hb _, fun j hj => by
          rcases Nat.lt_succ_iff_lt_or_eq.1 hj with h' | rfl
          · exact hall.out j h'
          · exact mOk_iff.2 hok⟩
        case measure => simp [intOf]; omega
      · have Hno := Lib.hid (isModel_false (L := L) (R := R) (j := k) (by rw [hLL.out]; exact hlt) (mOk_no hok))
        by_cases h0 : 0 ≤ L[k]?.getD 0 ∧ L[k]?.getD 0 ≤ 99
        · go_wp2_with fail
          go_quiet ((go_at_call 95; first | exact Calls.quiet_of_same (l1In_yes _ _ _ _ (by omega)) | exact Calls.quiet_of_same (l1In_no _ _ _ _ (by omega))))
          go_wp2
          go_ret
          exact ⟨ret_bool Hno.out.symm, below_drewN hb _⟩
        · go_wp2_with fail
          go_quiet ((go_at_call 95; exact Calls.quiet_of_same (l1In_no _ _ _ _ (by omega))))
          go_wp2
          go_ret
          exact ⟨ret_bool Hno.out.symm, below_drewN hb _⟩
    · have hend : n ≤ k ∨ m ≤ k := by omega
      by_cases hmn : m = n
      · subst hmn
        by_cases h7 : 1 ≤ m ∧ m ≤ 7
        · have h7' : 1 ≤ (m : Int) ∧ (m : Int) ≤ 7 := by omega
          obtain rfl : k = m := by omega
          go_wp2_with (go_at_call 95; refine (l1In_yes _ _ _ _ h7').mono ?_; rintro e w' ⟨rfl, rfl⟩)
          go_ret
          exact ⟨ret_bool (isModel_true (by rw [hLL.out]; omega) (by rw [hLL.out]; omega) (by rw [hLL.out, hRR.out]) (by rw [hLL.out]; exact hall.out)).symm, hb⟩
        · have h7' : ¬ (1 ≤ (m : Int) ∧ (m : Int) ≤ 7) := by omega
          obtain rfl : k = m := by omega
          have Hno := Lib.hid (isModel_len (L := L) (R := R) (by rw [hLL.out, hRR.out]; omega))
          go_wp2_with (go_at_call 95; refine (l1In_no _ _ _ _ h7').mono ?_; rintro e w' ⟨rfl, rfl⟩)
          go_ret
          exact ⟨ret_bool Hno.out.symm, hb⟩
      · have Hno := Lib.hid (isModel_len (L := L) (R := R) (by rw [hLL.out, hRR.out]; omega))
        have hne : ((m : Int) == n) = false := by simp; omega
        by_cases hkn : k < n
        · go_wp2_with (go_at_call 95; refine (l1In_any _ _ _ _).mono ?_; rintro e w' ⟨rfl, rfl⟩)
          all_goals (go_ret; exact ⟨ret_bool Hno.out.symm, hb⟩)
        · go_wp2_with (go_at_call 95; refine (l1In_any _ _ _ _).mono ?_; rintro e w' ⟨rfl, rfl⟩)
          all_goals (go_ret; exact ⟨ret_bool Hno.out.symm, hb⟩)

set_option maxRecDepth 100000 in
theorem boxed (w : World) {w1 : World} {T : TypeId} {cs : Array Value} {w0 : World} (hb : Below w0.heap.size w0 w1) (h : Blk w0 w.heap.size T cs) : Blk w1 w.heap.size T cs := h.up hb
set_option maxRecDepth 100000 in
theorem model_at {L R : List Int} (h : isModel L R = true) {n k : Nat} (hn : L.length = n) (hk : k < n) : 0 ≤ L[k]?.getD 0 ∧ L[k]?.getD 0 ≤ R[k]?.getD 0 ∧ R[k]?.getD 0 ≤ 99 :=
  mOk_iff.1 ((isModel_spec h).2.2.2 k (by omega))
set_option maxRecDepth 100000 in
theorem implIsModel_is {A B : Option Addr} {n m ca cb : Nat} {L R : List Int} {w : World} {b : Bool} (hL : RI w A n L) (hR : RI w B m R) (hn : n ≤ 1048576) (hm : m ≤ 1048576) (h : isModel L R = b) :
    Calls Tryz.prog 15 #[.agg #[.slice A n ca, .slice B m cb]] w fun e w' => e = .returned (.bool b) ∧ Below w.heap.size w w' := by
  subst h; exact implIsModel_any _ _ _ _ _ _ _ _ _ hL hR hn hm
set_option maxRecDepth 100000 in
theorem specIsModel_is {A B : Option Addr} {n m ca cb : Nat} {L R : List Int} {w : World} {b : Bool} (hL : RI w A n L) (hR : RI w B m R) (hn : n ≤ 1048576) (hm : m ≤ 1048576) (h : isModel L R = b) :
    Calls Tryz.prog 61 #[.agg #[.slice A n ca, .slice B m cb]] w fun e w' => e = .returned (.bool b) ∧ Below w.heap.size w w' := by
  subst h; exact specIsModel_any _ _ _ _ _ _ _ _ _ hL hR hn hm

set_option maxRecDepth 100000 in
set_option maxHeartbeats 400000 in
theorem implIsUnitModel_any (A B : Option Addr) (n m ca cb : Nat) (L R : List Int) (d : Int) (w : World) (hL : RI w A n L) (hR : RI w B m R) (hn : n ≤ 1048576) (hm : m ≤ 1048576) :
    Calls Tryz.prog 28 #[.agg #[.slice A n ca, .slice B m cb], .int .i64 d] w fun e w' => e = .returned (.bool (isUnitModel L R d)) ∧ Below w.heap.size w w' := by
  have hLL := Lib.hid hL.1
  rcases Bool.eq_false_or_eq_true (isModel L R) with hmod | hmod
  · have hMod := Lib.hid hmod
    have hlen := (isModel_spec hmod).2.2.1
    rw [hL.1, hR.1] at hlen
    subst hlen
    go_enter Tryz.func28, Tryz.ntmps28
    go_wp2_with fail
    refine (implIsModel_is (hL.up (by go_grown)) (hR.up (by go_grown)) hn hm hMod.out).mono ?_
    rintro e w1 ⟨rfl, hb1⟩
    have hw1 : Below w.heap.size w w1 := Up.then_ (by go_grown) hb1
    obtain ⟨hc1, hf1⟩ := bcell hb1
    have hz1 := hb1.size
    try simp only [World.size_alloc] at hz1
    try simp only [World.size_setCell] at hz1
    try simp only [World.size_alloc] at hz1
    try simp only [World.size_drew] at hz1
    have hl1_0 : w.heap.size < w1.heap.size := by omega
    clear hmod
    have hblk := (Blk.new w 26 #[.slice A m ca, .slice B m cb]).up hb1
    obtain ⟨hx0, hx1⟩ := hblk.two
    go_wp2
    go_loop [13] (fun i => ∃ k : Nat, k ≤ m ∧ i = .int .i64 k ∧ Hid (∀ j, j < k → R.getD j 0 - L.getD j 0 = d)) (fun i => m - (intOf i).toNat)
    case atStart => exact ⟨0, Nat.zero_le _, rfl, fun j h => absurd h (by omega)⟩
    case round =>
      obtain ⟨k, hk, rfl, hall⟩ := hrel
      by_cases hlt : k < m
      · obtain ⟨a, rfl, ha, hca⟩ := (hL.up hw1).at_ hlt
        obtain ⟨b, rfl, hb, hcb⟩ := (hR.up hw1).at_ hlt
        obtain ⟨o1, o2, o3⟩ := model_at hMod.out hLL.out hlt
        by_cases hok : R[k]?.getD 0 - L[k]?.getD 0 = d
        · have Hok := Lib.hid hok
          have hne : (R[k]?.getD 0 - L[k]?.getD 0 != d) = false := by simpa using hok
          clear hok
          go_wp2
          go_round
          case rel => exact ⟨k + 1, by omega, by go_num, fun j hj => by
            rcases Nat.lt_succ_iff_lt_or_eq.1 hj with h' | rfl
            · exact hall.out j h'
            · exact Hok.out⟩
          case measure => simp [intOf]; omega
        · have Hno := Lib.hid (isUnitModel_false (L := L) (R := R) (d := d) (j := k) (by rw [hLL.out]; exact hlt) hok)
          have hne : (R[k]?.getD 0 - L[k]?.getD 0 != d) = true := by simpa using hok
          go_wp2
          go_ret
          exact ⟨ret_bool Hno.out.symm, by go_grown⟩
      · obtain rfl : k = m := by omega
        go_wp2
        go_ret
        exact ⟨ret_bool (isUnitModel_true hMod.out (by rw [hLL.out]; exact hall.out)).symm, by go_grown⟩
  · have Hno := Lib.hid (isUnitModel_no (d := d) hmod)
    have hMod := Lib.hid hmod
    clear hmod
    go_enter Tryz.func28, Tryz.ntmps28
    go_wp2_with fail
    refine (implIsModel_is (hL.up (by go_grown)) (hR.up (by go_grown)) hn hm hMod.out).mono ?_
    rintro e w1 ⟨rfl, hb1⟩
    have hw1 : Below w.heap.size w w1 := Up.then_ (by go_grown) hb1
    obtain ⟨hc1, hf1⟩ := bcell hb1
    have hz1 := hb1.size
    try simp only [World.size_alloc] at hz1
    try simp only [World.size_setCell] at hz1
    try simp only [World.size_alloc] at hz1
    try simp only [World.size_drew] at hz1
    have hl1_0 : w.heap.size < w1.heap.size := by omega
    go_wp2
    go_ret
    exact ⟨ret_bool Hno.out.symm, by go_grown⟩
set_option maxRecDepth 100000 in
set_option maxHeartbeats 400000 in
theorem implPointsCovered_any (A B : Option Addr) (n m ca cb : Nat) (L R : List Int) (x : Int) (w : World) (hL : RI w A n L) (hR : RI w B m R) (hn : n ≤ 1048576) (hm : m ≤ 1048576) :
    Calls Tryz.prog 22 #[.agg #[.slice A n ca, .slice B m cb], .int .i64 x] w fun e w' => e = .returned (.int .i64 (pointsCovered L R x)) ∧ Below w.heap.size w w' := by
  have hLL := Lib.hid hL.1
  rcases Bool.eq_false_or_eq_true (isModel L R) with hmod | hmod
  · have hMod := Lib.hid hmod
    have h7 := (isModel_spec hmod).2.1
    have hlen := (isModel_spec hmod).2.2.1
    rw [hL.1] at h7
    rw [hL.1, hR.1] at hlen
    subst hlen
    go_enter Tryz.func22, Tryz.ntmps22
    go_wp2_with fail
    refine (implIsModel_is (hL.up (by go_grown)) (hR.up (by go_grown)) hn hm hMod.out).mono ?_
    rintro e w1 ⟨rfl, hb1⟩
    have hw1 : Below w.heap.size w w1 := Up.then_ (by go_grown) hb1
    obtain ⟨hc1, hf1⟩ := bcell hb1
    have hz1 := hb1.size
    try simp only [World.size_alloc] at hz1
    try simp only [World.size_setCell] at hz1
    try simp only [World.size_alloc] at hz1
    try simp only [World.size_drew] at hz1
    have hl1_0 : w.heap.size < w1.heap.size := by omega
    clear hmod
    have hblk := (Blk.new w 26 #[.slice A m ca, .slice B m cb]).up hb1
    obtain ⟨hx0, hx1⟩ := hblk.two
    go_wp2
    go_loop [5, 14] (fun s i => ∃ k : Nat, k ≤ m ∧ i = .int .i64 k ∧ s = .int .i64 (pcK L R x k)) (fun _ i => m - (intOf i).toNat)
    case atStart => exact ⟨0, Nat.zero_le _, rfl, rfl⟩
    case round =>
      obtain ⟨k, hk, rfl, rfl⟩ := hrel
      have hpl := pcK_lt L R x k
      by_cases hlt : k < m
      · obtain ⟨a, rfl, ha, hca⟩ := (hL.up hw1).at_ hlt
        obtain ⟨b, rfl, hb, hcb⟩ := (hR.up hw1).at_ hlt
        by_cases hok : L[k]?.getD 0 ≤ x ∧ x ≤ R[k]?.getD 0
        · go_wp2_with (go_at_call 66; refine (within_any _ _ _ _).mono ?_; rintro e w' ⟨rfl, rfl⟩)
          go_round
          case rel => exact ⟨k + 1, by omega, by go_num, by rw [pcK_yes hok, pow_wrap k (by omega), i64_or_nat _ _ (pcK_small L R x (by omega)) (pow_small (by omega)), pcK_or]⟩
          case measure => simp [intOf]; omega
        · have hno : (decide (L[k]?.getD 0 ≤ x) && decide (x ≤ R[k]?.getD 0)) = false := by simp; omega
          go_wp2_with (go_at_call 66; refine (within_any _ _ _ _).mono ?_; rintro e w' ⟨rfl, rfl⟩)
          go_round
          case rel => exact ⟨k + 1, by omega, by go_num, by rw [pcK_nay hok]⟩
          case measure => simp [intOf]; omega
      · obtain rfl : k = m := by omega
        go_wp2
        go_ret
        exact ⟨ret_int (by rw [pointsCovered, if_pos hMod.out, hLL.out]), by go_grown⟩
  · have hMod := Lib.hid hmod
    clear hmod
    go_enter Tryz.func22, Tryz.ntmps22
    go_wp2_with fail
    refine (implIsModel_is (hL.up (by go_grown)) (hR.up (by go_grown)) hn hm hMod.out).mono ?_
    rintro e w1 ⟨rfl, hb1⟩
    have hw1 : Below w.heap.size w w1 := Up.then_ (by go_grown) hb1
    obtain ⟨hc1, hf1⟩ := bcell hb1
    have hz1 := hb1.size
    try simp only [World.size_alloc] at hz1
    try simp only [World.size_setCell] at hz1
    try simp only [World.size_alloc] at hz1
    try simp only [World.size_drew] at hz1
    have hl1_0 : w.heap.size < w1.heap.size := by omega
    go_wp2
    go_ret
    exact ⟨ret_int (by rw [pointsCovered, hMod.out]; rfl), by go_grown⟩
end Go.Proofs.YthncdjcmlpiebaaGreatDoor
