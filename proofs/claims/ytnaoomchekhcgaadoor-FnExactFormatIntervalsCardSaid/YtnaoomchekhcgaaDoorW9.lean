/- Walks of chapter 9: models by intervals, in the program and in the reference. -/
import Derived.Test.YtnaoomchekhcgaaDoorLaw
import Derived.Test.YtnaoomchekhcgaaDoorPure9
namespace Go.Proofs.YtnaoomchekhcgaaDoor
open Go.RowKit

theorem within_any (n lo hi : Int) (w : World) : Calls Tryd.prog 30 #[.int .i64 n, .int .i64 lo, .int .i64 hi] w fun e w' => e = .returned (.bool (decide (lo ≤ n) && decide (n ≤ hi))) ∧ w = w' := by
  go_enter Tryd.func30, Tryd.ntmps30
  go_wp2
  all_goals (go_ret; simp [*])
  all_goals omega
theorem within_yes (n lo hi : Int) (w : World) (h : lo ≤ n ∧ n ≤ hi) : Calls Tryd.prog 30 #[.int .i64 n, .int .i64 lo, .int .i64 hi] w fun e w' => e = .returned (.bool true) ∧ w = w' :=
  (within_any n lo hi w).mono fun _ _ hh => ⟨by rw [hh.1]; simp [h], hh.2⟩
theorem within_no (n lo hi : Int) (w : World) (h : ¬ (lo ≤ n ∧ n ≤ hi)) : Calls Tryd.prog 30 #[.int .i64 n, .int .i64 lo, .int .i64 hi] w fun e w' => e = .returned (.bool false) ∧ w = w' :=
  (within_any n lo hi w).mono fun _ _ hh => ⟨by rw [hh.1]; simp; omega, hh.2⟩
theorem l1In_any (n lo hi : Int) (w : World) : Calls Tryd.prog 27 #[.int .i64 n, .int .i64 lo, .int .i64 hi] w fun e w' => e = .returned (.bool (decide (lo ≤ n) && decide (n ≤ hi))) ∧ w = w' := by
  go_enter Tryd.func27, Tryd.ntmps27
  go_wp2
  all_goals (go_ret; simp [*])
  all_goals omega
theorem l1In_yes (n lo hi : Int) (w : World) (h : lo ≤ n ∧ n ≤ hi) : Calls Tryd.prog 27 #[.int .i64 n, .int .i64 lo, .int .i64 hi] w fun e w' => e = .returned (.bool true) ∧ w' = w :=
  (l1In_any n lo hi w).mono fun _ _ hh => ⟨by rw [hh.1]; simp [h], hh.2.symm⟩
theorem l1In_no (n lo hi : Int) (w : World) (h : ¬ (lo ≤ n ∧ n ≤ hi)) : Calls Tryd.prog 27 #[.int .i64 n, .int .i64 lo, .int .i64 hi] w fun e w' => e = .returned (.bool false) ∧ w' = w :=
  (l1In_any n lo hi w).mono fun _ _ hh => ⟨by rw [hh.1]; simp; omega, hh.2.symm⟩

set_option maxHeartbeats 400000 in
theorem implIsModel_any (A B : Option Addr) (n m ca cb : Nat) (L R : List Int) (w : World) (hL : RI w A n L) (hR : RI w B m R) (hn : n ≤ 1048576) (hm : m ≤ 1048576) :
    Calls Tryd.prog 25 #[.agg #[.slice A n ca, .slice B m cb]] w fun e w' => e = .returned (.bool (isModel L R)) ∧ Below w.heap.size w w' := by
  have hLL := Lib.hid hL.1
  have hRR := Lib.hid hR.1
  by_cases h7 : 1 ≤ n ∧ n ≤ 7
  · obtain ⟨h1, h2⟩ := h7
    by_cases hmn : m = n
    · subst hmn
      go_enter Tryd.func25, Tryd.ntmps25
      go_wp2_with (go_at_call 30; refine (within_any _ _ _ _).mono ?_; rintro e w' ⟨rfl, rfl⟩)
      go_loop [22] (fun i => ∃ k : Nat, k ≤ m ∧ i = .int .i64 k ∧ Hid (∀ j, j < k → mOk (L.getD j 0) (R.getD j 0) = true)) (fun i => m - (intOf i).toNat)
      case atStart => exact ⟨0, Nat.zero_le _, rfl, fun j h => absurd h (by omega)⟩
      case round =>
        obtain ⟨k, hk, rfl, hall⟩ := hrel
        by_cases hlt : k < m
        · obtain ⟨a, rfl, hca⟩ := hL.after hlt
          obtain ⟨b, rfl, hcb⟩ := hR.after hlt
          by_cases hok : 0 ≤ L[k]?.getD 0 ∧ L[k]?.getD 0 ≤ R[k]?.getD 0 ∧ R[k]?.getD 0 ≤ 99
          · go_wp2
            go_round
            case rel => exact ⟨k + 1, by omega, by go_num, fun j hj => by
              rcases Nat.lt_succ_iff_lt_or_eq.1 hj with h' | rfl
              · exact hall.out j h'
              · exact mOk_iff.2 hok⟩
            case measure => simp [intOf]; omega
          · have hno := isModel_false (L := L) (R := R) (j := k) (by rw [hLL.out]; exact hlt) (mOk_no hok)
            have Hno := Lib.hid hno
            clear hno
            go_wp2
            all_goals (go_ret; exact ⟨ret_bool Hno.out.symm, by go_grown⟩)
        · obtain rfl : k = m := by omega
          go_wp2
          go_ret
          exact ⟨ret_bool (isModel_true (by rw [hLL.out]; omega) (by rw [hLL.out]; omega) (by rw [hLL.out, hRR.out]) (by rw [hLL.out]; exact hall.out)).symm, by go_grown⟩
    · have hne : ((m : Int) != n) = true := by simp; omega
      go_enter Tryd.func25, Tryd.ntmps25
      go_wp2_with (go_at_call 30; refine (within_any _ _ _ _).mono ?_; rintro e w' ⟨rfl, rfl⟩)
      go_ret
      exact ⟨ret_bool (isModel_len (by rw [hLL.out, hRR.out]; omega)).symm, by go_grown⟩
  · go_enter Tryd.func25, Tryd.ntmps25
    go_wp2_with (go_at_call 30; refine (within_any _ _ _ _).mono ?_; rintro e w' ⟨rfl, rfl⟩)
    go_ret
    exact ⟨ret_bool (isModel_len (by rw [hLL.out, hRR.out]; omega)).symm, by go_grown⟩

set_option maxHeartbeats 400000 in
theorem specIsModel_any (A B : Option Addr) (n m ca cb : Nat) (L R : List Int) (w : World) (hL : RI w A n L) (hR : RI w B m R) (hn : n ≤ 1048576) (hm : m ≤ 1048576) :
    Calls Tryd.prog 24 #[.agg #[.slice A n ca, .slice B m cb]] w fun e w' => e = .returned (.bool (isModel L R)) ∧ Below w.heap.size w w' := by
  have hLL := Lib.hid hL.1
  have hRR := Lib.hid hR.1
  go_enter Tryd.func24, Tryd.ntmps24
  go_wp2_with fail
  go_loopw [3] (fun i wr => ∃ k : Nat, k ≤ n ∧ k ≤ m ∧ i = .int .i64 k ∧ Blk wr w.heap.size 35 #[.slice A n ca, .slice B m cb] ∧ Below w.heap.size w wr ∧ Hid (∀ j, j < k → mOk (L.getD j 0) (R.getD j 0) = true)) (fun i _ => n - (intOf i).toNat)
  case atStart => exact ⟨0, Nat.zero_le _, Nat.zero_le _, rfl, Blk.new _ _ _, by go_grown, fun j h => absurd h (by omega)⟩
  case round =>
    obtain ⟨k, hk, hk', rfl, hblk, hb, hall⟩ := hrel
    obtain ⟨hx0, hx1⟩ := hblk.two
    by_cases hlt : k < n ∧ k < m
    · obtain ⟨hlt, hlt'⟩ := hlt
      obtain ⟨a, rfl, ha, hca⟩ := (hL.up hb).at_ hlt
      obtain ⟨b, rfl, hb', hcb⟩ := (hR.up hb).at_ hlt'
      by_cases hok : 0 ≤ L[k]?.getD 0 ∧ L[k]?.getD 0 ≤ R[k]?.getD 0 ∧ R[k]?.getD 0 ≤ 99
      · go_wp2_with fail
        go_quiet ((go_at_call 27; exact Calls.quiet_of_same (l1In_yes _ _ _ _ (by omega))))
        go_wp2
        go_roundw
        case rel => exact ⟨k + 1, by omega, by omega, by go_num, hblk.drewN _, below_drewN hb _, fun j hj => by
          rcases Nat.lt_succ_iff_lt_or_eq.1 hj with h' | rfl
          · exact hall.out j h'
          · exact mOk_iff.2 hok⟩
        case measure => simp [intOf]; omega
      · have Hno := Lib.hid (isModel_false (L := L) (R := R) (j := k) (by rw [hLL.out]; exact hlt) (mOk_no hok))
        by_cases h0 : 0 ≤ L[k]?.getD 0 ∧ L[k]?.getD 0 ≤ 99
        · go_wp2_with fail
          go_quiet ((go_at_call 27; first | exact Calls.quiet_of_same (l1In_yes _ _ _ _ (by omega)) | exact Calls.quiet_of_same (l1In_no _ _ _ _ (by omega))))
          go_wp2
          go_ret
          exact ⟨ret_bool Hno.out.symm, below_drewN hb _⟩
        · go_wp2_with fail
          go_quiet ((go_at_call 27; exact Calls.quiet_of_same (l1In_no _ _ _ _ (by omega))))
          go_wp2
          go_ret
          exact ⟨ret_bool Hno.out.symm, below_drewN hb _⟩
    · have hend : n ≤ k ∨ m ≤ k := by omega
      by_cases hmn : m = n
      · subst hmn
        by_cases h7 : 1 ≤ m ∧ m ≤ 7
        · have h7' : 1 ≤ (m : Int) ∧ (m : Int) ≤ 7 := by omega
          obtain rfl : k = m := by omega
          go_wp2_with (go_at_call 27; refine (l1In_yes _ _ _ _ h7').mono ?_; rintro e w' ⟨rfl, rfl⟩)
          go_ret
          exact ⟨ret_bool (isModel_true (by rw [hLL.out]; omega) (by rw [hLL.out]; omega) (by rw [hLL.out, hRR.out]) (by rw [hLL.out]; exact hall.out)).symm, hb⟩
        · have h7' : ¬ (1 ≤ (m : Int) ∧ (m : Int) ≤ 7) := by omega
          obtain rfl : k = m := by omega
          have Hno := Lib.hid (isModel_len (L := L) (R := R) (by rw [hLL.out, hRR.out]; omega))
          go_wp2_with (go_at_call 27; refine (l1In_no _ _ _ _ h7').mono ?_; rintro e w' ⟨rfl, rfl⟩)
          go_ret
          exact ⟨ret_bool Hno.out.symm, hb⟩
      · have Hno := Lib.hid (isModel_len (L := L) (R := R) (by rw [hLL.out, hRR.out]; omega))
        have hne : ((m : Int) == n) = false := by simp; omega
        by_cases hkn : k < n
        · go_wp2_with (go_at_call 27; refine (l1In_any _ _ _ _).mono ?_; rintro e w' ⟨rfl, rfl⟩)
          all_goals (go_ret; exact ⟨ret_bool Hno.out.symm, hb⟩)
        · go_wp2_with (go_at_call 27; refine (l1In_any _ _ _ _).mono ?_; rintro e w' ⟨rfl, rfl⟩)
          all_goals (go_ret; exact ⟨ret_bool Hno.out.symm, hb⟩)

theorem boxed (w : World) {w1 : World} {T : TypeId} {cs : Array Value} {w0 : World} (hb : Below w0.heap.size w0 w1) (h : Blk w0 w.heap.size T cs) : Blk w1 w.heap.size T cs := h.up hb
theorem model_at {L R : List Int} (h : isModel L R = true) {n k : Nat} (hn : L.length = n) (hk : k < n) : 0 ≤ L[k]?.getD 0 ∧ L[k]?.getD 0 ≤ R[k]?.getD 0 ∧ R[k]?.getD 0 ≤ 99 :=
  mOk_iff.1 ((isModel_spec h).2.2.2 k (by omega))
theorem implIsModel_is {A B : Option Addr} {n m ca cb : Nat} {L R : List Int} {w : World} {b : Bool} (hL : RI w A n L) (hR : RI w B m R) (hn : n ≤ 1048576) (hm : m ≤ 1048576) (h : isModel L R = b) :
    Calls Tryd.prog 25 #[.agg #[.slice A n ca, .slice B m cb]] w fun e w' => e = .returned (.bool b) ∧ Below w.heap.size w w' := by
  subst h; exact implIsModel_any _ _ _ _ _ _ _ _ _ hL hR hn hm
theorem specIsModel_is {A B : Option Addr} {n m ca cb : Nat} {L R : List Int} {w : World} {b : Bool} (hL : RI w A n L) (hR : RI w B m R) (hn : n ≤ 1048576) (hm : m ≤ 1048576) (h : isModel L R = b) :
    Calls Tryd.prog 24 #[.agg #[.slice A n ca, .slice B m cb]] w fun e w' => e = .returned (.bool b) ∧ Below w.heap.size w w' := by
  subst h; exact specIsModel_any _ _ _ _ _ _ _ _ _ hL hR hn hm
