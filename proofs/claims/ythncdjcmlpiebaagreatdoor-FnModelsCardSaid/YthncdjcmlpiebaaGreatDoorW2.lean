/- Walks of chapter 2: graphs, in the program and in the reference. -/
import Derived.Test.YthncdjcmlpiebaaGreatDoorBasA
import Derived.Test.YthncdjcmlpiebaaGreatDoorPurA
import Derived.Deep.RegionHeld3
namespace Go.Proofs.YthncdjcmlpiebaaGreatDoor
open Go.RowKit

set_option maxRecDepth 100000 in
theorem RI.nb_at {w : World} {A : Option Addr} {n k : Nat} {Q : List Nat} (h : RI w A n (ints Q)) (hk : k < n) : ∃ ad, A = some ad ∧ w.cell? (ad.add k) = some (.int .i64 (nb Q k)) := by
  obtain ⟨ad, e, _, hc⟩ := h.at_ hk
  rw [ints_nb] at hc
  exact ⟨ad, e, hc⟩
set_option maxRecDepth 100000 in
theorem RI.nb_after {w : World} {A : Option Addr} {n k : Nat} {Q : List Nat} (h : RI w A n (ints Q)) (hk : k < n) : ∃ ad, A = some ad ∧ ∀ o, (w.alloc o).cell? (ad.add k) = some (.int .i64 (nb Q k)) := by
  obtain ⟨ad, e, hc⟩ := h.after hk
  rw [ints_nb] at hc
  exact ⟨ad, e, hc⟩
set_option maxRecDepth 100000 in
theorem p2_small {k r : Nat} (hk : k ≤ 7) (h : r < 2 ^ k) : r < 9223372036854775808 := Nat.lt_trans h (pow_small hk)
where pow_small {k : Nat} (hk : k ≤ 7) : 2 ^ k < 9223372036854775808 := Nat.lt_of_le_of_lt (Nat.pow_le_pow_right (by omega) hk) (by decide)
set_option maxRecDepth 100000 in
theorem within_any (n lo hi : Int) (w : World) : Calls Tryz.prog 66 #[.int .i64 n, .int .i64 lo, .int .i64 hi] w fun e w' => e = .returned (.bool (decide (lo ≤ n) && decide (n ≤ hi))) ∧ w = w' := by
  go_enter Tryz.func66, Tryz.ntmps66
  go_wp2
  all_goals (go_ret; simp [*])
  all_goals omega
set_option maxRecDepth 100000 in
theorem within_yes (n lo hi : Int) (w : World) (h : lo ≤ n ∧ n ≤ hi) : Calls Tryz.prog 66 #[.int .i64 n, .int .i64 lo, .int .i64 hi] w fun e w' => e = .returned (.bool true) ∧ w = w' :=
  (within_any n lo hi w).mono fun _ _ hh => ⟨by rw [hh.1]; simp [h], hh.2⟩
set_option maxRecDepth 100000 in
theorem within_no (n lo hi : Int) (w : World) (h : ¬ (lo ≤ n ∧ n ≤ hi)) : Calls Tryz.prog 66 #[.int .i64 n, .int .i64 lo, .int .i64 hi] w fun e w' => e = .returned (.bool false) ∧ w = w' :=
  (within_any n lo hi w).mono fun _ _ hh => ⟨by rw [hh.1]; simp; omega, hh.2⟩
set_option maxRecDepth 100000 in
theorem l1In_any (n lo hi : Int) (w : World) : Calls Tryz.prog 95 #[.int .i64 n, .int .i64 lo, .int .i64 hi] w fun e w' => e = .returned (.bool (decide (lo ≤ n) && decide (n ≤ hi))) ∧ w = w' := by
  go_enter Tryz.func95, Tryz.ntmps95
  go_wp2
  all_goals (go_ret; simp [*])
  all_goals omega
set_option maxRecDepth 100000 in
theorem l1In_yes (n lo hi : Int) (w : World) (h : lo ≤ n ∧ n ≤ hi) : Calls Tryz.prog 95 #[.int .i64 n, .int .i64 lo, .int .i64 hi] w fun e w' => e = .returned (.bool true) ∧ w' = w :=
  (l1In_any n lo hi w).mono fun _ _ hh => ⟨by rw [hh.1]; simp [h], hh.2.symm⟩
set_option maxRecDepth 100000 in
theorem l1In_no (n lo hi : Int) (w : World) (h : ¬ (lo ≤ n ∧ n ≤ hi)) : Calls Tryz.prog 95 #[.int .i64 n, .int .i64 lo, .int .i64 hi] w fun e w' => e = .returned (.bool false) ∧ w' = w :=
  (l1In_any n lo hi w).mono fun _ _ hh => ⟨by rw [hh.1]; simp; omega, hh.2.symm⟩
set_option maxRecDepth 100000 in
theorem l1In_eq {n lo hi : Int} {w : World} (h : lo ≤ n ∧ n ≤ hi) : Calls Tryz.prog 95 #[.int .i64 n, .int .i64 lo, .int .i64 hi] w fun e w' => e = .returned (.bool true) ∧ w = w' :=
  (l1In_any n lo hi w).mono fun _ _ hh => ⟨by rw [hh.1]; simp [h], hh.2⟩
set_option maxRecDepth 100000 in
theorem has_nat (s v : Nat) (w : World) (hs : s < 9223372036854775808) (hv : v ≤ 62) : Calls Tryz.prog 131 #[.int .i64 s, .int .i64 v] w fun e w' => e = .returned (.bool (s.testBit v)) ∧ w = w' := by
  have hb := bit_one s v hs
  go_enter Tryz.func131, Tryz.ntmps131
  go_wp2
  go_ret
  exact ⟨rfl, rfl⟩
set_option maxRecDepth 100000 in
theorem has_is {s v : Nat} {w : World} {b : Bool} (hs : s < 9223372036854775808) (hv : v ≤ 62) (h : s.testBit v = b) : Calls Tryz.prog 131 #[.int .i64 s, .int .i64 v] w fun e w' => e = .returned (.bool b) ∧ w' = w :=
  (has_nat s v w hs hv).mono fun _ _ hh => ⟨by rw [hh.1, h], hh.2.symm⟩
set_option maxRecDepth 100000 in
theorem has_eq {s v : Nat} {w : World} {b : Bool} (hs : s < 9223372036854775808) (hv : v ≤ 62) (h : s.testBit v = b) : Calls Tryz.prog 131 #[.int .i64 s, .int .i64 v] w fun e w' => e = .returned (.bool b) ∧ w = w' :=
  (has_nat s v w hs hv).mono fun _ _ hh => ⟨by rw [hh.1, h], hh.2⟩
set_option maxRecDepth 100000 in
theorem all_any (n : Nat) (A : Option Addr) (c k : Nat) (w : World) (h : n ≤ 7) : Calls Tryz.prog 92 #[.agg #[.int .i64 n, .slice A k c]] w fun e w' => e = .returned (.int .i64 ((p2 n - 1 : Nat) : Int)) ∧ Below w.heap.size w w' := by
  have hp := shl_p2 (k := n) (by omega)
  have h1 := p2_le h
  have h2 := p2_pos n
  go_enter Tryz.func92, Tryz.ntmps92
  go_wp2
  go_ret
  exact ⟨ret_int (by omega), by go_grown⟩

set_option maxRecDepth 100000 in
set_option maxHeartbeats 2000000 in
theorem implIsGraph_any (N : Int) (A : Option Addr) (n c : Nat) (X : List Int) (w : World) (hX : RI w A n X) (hn : n ≤ 9223372036854775807) :
    Calls Tryz.prog 87 #[.agg #[.int .i64 N, .slice A n c]] w fun e w' => e = .returned (.bool (isGraph N X)) ∧ Below w.heap.size w w' := by
  have hXX := Lib.hid hX.1
  by_cases h7 : 1 ≤ N ∧ N ≤ 7
  · by_cases hNn : (n : Int) = N
    · subst hNn
      have hn1 : 1 ≤ n := by omega
      have hn7 : n ≤ 7 := by omega
      have hp := shl_p2 (k := n) (by omega)
      have hp1 := p2_le hn7
      have hp2 := p2_pos n
      go_enter Tryz.func87, Tryz.ntmps87
      go_wp2_with (go_at_call 66; refine (within_yes _ _ _ _ h7).mono ?_; rintro e w' ⟨rfl, rfl⟩)
      go_loop [23] (fun i => ∃ k : Nat, k ≤ n ∧ i = .int .i64 k ∧ Hid (∀ j, j < k → rowOk X n j = true)) (fun i => n - (intOf i).toNat)
      case atStart => exact ⟨0, Nat.zero_le _, rfl, fun j h => absurd h (by omega)⟩
      case round =>
        obtain ⟨k, hk, rfl, hall⟩ := hrel
        by_cases hlt : k < n
        · obtain ⟨a, rfl, hca⟩ := hX.after hlt
          by_cases hr : 0 ≤ X[k]?.getD 0 ∧ X[k]?.getD 0 ≤ (p2 n : Int) - 1
          · obtain ⟨r, hxr⟩ : ∃ r : Nat, X.getD k 0 = r := ⟨(X[k]?.getD 0).toNat, by have : X.getD k 0 = X[k]?.getD 0 := rfl; omega⟩
            have hr2 : r < p2 n := by have : X.getD k 0 = X[k]?.getD 0 := rfl; omega
            rw [hxr] at hca
            have Hxr := Lib.hid hxr
            clear hxr hr
            rcases Bool.eq_false_or_eq_true (r.testBit k) with hbit | hbit
            · have Hno := Lib.hid (isGraph_row (n := n) (R := X) (i := k) (by rw [hXX.out]; exact hlt) (fun h => by
                have := (rowOk_iff.1 h).2.2
                rw [Hxr.out] at this
                simp [hbit] at this))
              go_wp2_with (first | (go_at_call 66; refine (within_yes _ _ _ _ (by omega)).mono ?_; rintro e w' ⟨rfl, rfl⟩) | (go_at_call 131; refine (has_is (by omega) (by omega) hbit).mono ?_; rintro e w' ⟨rfl, rfl⟩))
              go_ret
              exact ⟨ret_bool Hno.out.symm, by go_grown⟩
            · have Hok := Lib.hid (rowOk_iff (R := X) (k := n) (i := k).2 ⟨by rw [Hxr.out]; omega, by rw [Hxr.out]; exact Int.ofNat_lt.2 hr2, by rw [Hxr.out]; simpa using hbit⟩)
              go_wp2_with (first | (go_at_call 66; refine (within_yes _ _ _ _ (by omega)).mono ?_; rintro e w' ⟨rfl, rfl⟩) | (go_at_call 131; refine (has_is (by omega) (by omega) hbit).mono ?_; rintro e w' ⟨rfl, rfl⟩))
              go_round
              case rel => exact ⟨k + 1, by omega, by go_num, fun j hj => by
                rcases Nat.lt_succ_iff_lt_or_eq.1 hj with h' | rfl
                · exact hall.out j h'
                · exact Hok.out⟩
              case measure => simp [intOf]; omega
          · have Hno := Lib.hid (isGraph_row (n := n) (R := X) (i := k) (by rw [hXX.out]; exact hlt) (fun h => by
              have := rowOk_iff.1 h
              rw [hXX.out] at this
              exact hr ⟨this.1, Int.le_sub_one_of_lt this.2.1⟩))
            go_wp2_with (go_at_call 66; refine (within_no _ _ _ _ hr).mono ?_; rintro e w' ⟨rfl, rfl⟩)
            go_ret
            exact ⟨ret_bool Hno.out.symm, by go_grown⟩
        · obtain rfl : k = n := by omega
          obtain ⟨Q, rfl, hQl, hQr⟩ := rows_nat hXX.out hall.out
          have HQr := Lib.hid hQr
          have HQl := Lib.hid hQl
          clear hQr hQl hall
          go_wp2
          go_loopw [44] (fun s wr => ∃ i : Nat, i ≤ k ∧ s = .int .i64 i ∧ Blk wr w.heap.size 29 #[.int .i64 k, .slice A k c] ∧ Below w.heap.size w wr ∧ Hid (∀ a, a < i → ∀ b, b < a → (nb Q a).testBit b = (nb Q b).testBit a)) (fun s _ => k - (intOf s).toNat)
          case atStart => exact ⟨0, Nat.zero_le _, rfl, Blk.new _ _ _, by go_grown, fun j h => absurd h (by omega)⟩
          case round =>
            obtain ⟨i, hi, rfl, hblk, hb, hall⟩ := hrel
            obtain ⟨wo, rfl⟩ : ∃ wo : World, wo = wr := ⟨_, rfl⟩
            obtain ⟨hx0, hx1⟩ := hblk.two
            by_cases hlt : i < k
            · obtain ⟨a, rfl, hca⟩ := (hX.up hb).nb_at hlt
              have hri := p2_small hn7 (HQr.out i).1
              go_wp2_with fail
              go_loopw [50] (fun s wr => ∃ j : Nat, j ≤ i ∧ s = .int .i64 j ∧ Blk wr w.heap.size 29 #[.int .i64 k, .slice (some a) k c] ∧ Below w.heap.size w wr ∧ Hid (∀ b, b < j → (nb Q i).testBit b = (nb Q b).testBit i)) (fun s _ => i - (intOf s).toNat)
              case atStart => exact ⟨0, Nat.zero_le _, rfl, hblk, hb, fun j h => absurd h (by omega)⟩
              case round =>
                obtain ⟨j, hj, rfl, hblk2, hb2, hall2⟩ := hrel
                obtain ⟨hy0, hy1⟩ := hblk2.two
                by_cases hjt : j < i
                · obtain ⟨a', e', hca'⟩ := (hX.up hb2).nb_at (show j < k by omega)
                  injection e' with e'
                  subst e'
                  have hrj := p2_small hn7 (HQr.out j).1
                  rcases Bool.eq_false_or_eq_true ((nb Q i).testBit j) with e1 | e1 <;> rcases Bool.eq_false_or_eq_true ((nb Q j).testBit i) with e2 | e2
                  · have H1 := Lib.hid e1
                    have H2 := Lib.hid e2
                    clear e1 e2
                    go_wp2_with fail
                    go_quiet ((go_at_call 131; first | exact Calls.quiet_of_same (has_is hri (by omega) H1.out) | exact Calls.quiet_of_same (has_is hrj (by omega) H2.out)))
                    go_wp2
                    go_roundw
                    case rel => exact ⟨j + 1, by omega, by go_num, hblk2.drewN _, below_drewN hb2 _, fun b hb => by
                      rcases Nat.lt_succ_iff_lt_or_eq.1 hb with h' | rfl
                      · exact hall2.out b h'
                      · exact H1.out.trans H2.out.symm⟩
                    case measure => simp [intOf]; omega
                  · have Hno := Lib.hid (isGraph_pair (n := k) (R := ints Q) (i := i) (j := j) (by rw [hXX.out]; exact hlt) (by rw [hXX.out]; omega) (fun h => by rw [symAt_nb, e1, e2] at h; cases h))
                    have H1 := Lib.hid e1
                    have H2 := Lib.hid e2
                    clear e1 e2
                    go_wp2_with fail
                    go_quiet ((go_at_call 131; first | exact Calls.quiet_of_same (has_is hri (by omega) H1.out) | exact Calls.quiet_of_same (has_is hrj (by omega) H2.out)))
                    go_wp2
                    go_ret
                    exact ⟨ret_bool Hno.out.symm, below_drewN hb2 _⟩
                  · have Hno := Lib.hid (isGraph_pair (n := k) (R := ints Q) (i := i) (j := j) (by rw [hXX.out]; exact hlt) (by rw [hXX.out]; omega) (fun h => by rw [symAt_nb, e1, e2] at h; cases h))
                    have H1 := Lib.hid e1
                    have H2 := Lib.hid e2
                    clear e1 e2
                    go_wp2_with fail
                    go_quiet ((go_at_call 131; first | exact Calls.quiet_of_same (has_is hri (by omega) H1.out) | exact Calls.quiet_of_same (has_is hrj (by omega) H2.out)))
                    go_wp2
                    go_ret
                    exact ⟨ret_bool Hno.out.symm, below_drewN hb2 _⟩
                  · have H1 := Lib.hid e1
                    have H2 := Lib.hid e2
                    clear e1 e2
                    go_wp2_with fail
                    go_quiet ((go_at_call 131; first | exact Calls.quiet_of_same (has_is hri (by omega) H1.out) | exact Calls.quiet_of_same (has_is hrj (by omega) H2.out)))
                    go_wp2
                    go_roundw
                    case rel => exact ⟨j + 1, by omega, by go_num, hblk2.drewN _, below_drewN hb2 _, fun b hb => by
                      rcases Nat.lt_succ_iff_lt_or_eq.1 hb with h' | rfl
                      · exact hall2.out b h'
                      · exact H1.out.trans H2.out.symm⟩
                    case measure => simp [intOf]; omega
                · obtain rfl : j = i := by omega
                  go_wp2
                  go_roundw
                  case rel => exact ⟨j + 1, by omega, by go_num, hblk2, hb2, fun a ha => by
                    rcases Nat.lt_succ_iff_lt_or_eq.1 ha with h' | rfl
                    · exact hall.out a h'
                    · exact hall2.out⟩
                  case measure => simp [intOf]; omega
            · obtain rfl : i = k := by omega
              go_wp2
              go_ret
              exact ⟨ret_bool (isGraph_pairs hn1 hn7 HQl.out HQr.out hall.out).symm, hb⟩
    · have hne : ((n : Int) != N) = true := by simpa using hNn
      go_enter Tryz.func87, Tryz.ntmps87
      go_wp2_with (go_at_call 66; refine (within_yes _ _ _ _ h7).mono ?_; rintro e w' ⟨rfl, rfl⟩)
      go_ret
      exact ⟨ret_bool (isGraph_len (by rw [hXX.out]; omega)).symm, by go_grown⟩
  · go_enter Tryz.func87, Tryz.ntmps87
    go_wp2_with (go_at_call 66; refine (within_no _ _ _ _ h7).mono ?_; rintro e w' ⟨rfl, rfl⟩)
    go_ret
    exact ⟨ret_bool (isGraph_len (by rw [hXX.out]; omega)).symm, by go_grown⟩

set_option maxRecDepth 100000 in
theorem nat_of {x : Int} {n : Nat} (h0 : 0 ≤ x) (h1 : x < (p2 n : Int)) : ∃ r : Nat, x = r ∧ r < p2 n := ⟨x.toNat, by omega, by omega⟩
set_option maxRecDepth 100000 in
set_option maxHeartbeats 4000000 in
theorem specIsGraph_any (N : Int) (A : Option Addr) (n c : Nat) (X : List Int) (w : World) (hX : RI w A n X) (hn : n ≤ 9223372036854775807) :
    Calls Tryz.prog 71 #[.agg #[.int .i64 N, .slice A n c]] w fun e w' => e = .returned (.bool (isGraph N X)) ∧ Below w.heap.size w w' := by
  have hXX := Lib.hid hX.1
  by_cases h7 : 1 ≤ N ∧ N ≤ 7
  · by_cases hNn : (n : Int) = N
    · subst hNn
      have hn1 : 1 ≤ n := by omega
      have hn7 : n ≤ 7 := by omega
      have hp := shl_p2 (k := n) (by omega)
      have hp1 := p2_le hn7
      go_enter Tryz.func71, Tryz.ntmps71
      go_wp2_with (go_at_call 95; refine (l1In_yes _ _ _ _ h7).mono ?_; rintro e w' ⟨rfl, rfl⟩)
      go_loopw [3] (fun s wr => ∃ k : Nat, k ≤ n ∧ s = .int .i64 k ∧ Blk wr w.heap.size 29 #[.int .i64 n, .slice A n c] ∧ Below w.heap.size w wr ∧ Hid (∀ a, a < k → rowOk X n a = true ∧ ∀ b, b < n → (X.getD a 0).toNat.testBit b = true → (X.getD b 0).toNat.testBit a = true)) (fun s _ => n - (intOf s).toNat)
      case atStart => exact ⟨0, Nat.zero_le _, rfl, Blk.new _ _ _, by go_grown, fun j h => absurd h (by omega)⟩
      case round =>
        obtain ⟨k, hk, rfl, hblk, hb, hall⟩ := hrel
        obtain ⟨wo, rfl⟩ : ∃ wo : World, wo = wr := ⟨_, rfl⟩
        obtain ⟨hx0, hx1⟩ := hblk.two
        by_cases hlt : k < n
        · obtain ⟨a, rfl, _, hca⟩ := (hX.up hb).at_ hlt
          by_cases hneg : X.getD k 0 < 0
          · have Hno := Lib.hid (isGraph_row (n := n) (R := X) (i := k) (by rw [hXX.out]; exact hlt) (fun h => absurd (rowOk_iff.1 h).1 (by omega)))
            have d0 : decide (X[k]?.getD 0 < 0) = true := by simpa using hneg
            clear hneg
            go_wp2_with fail
            go_quiet (fail)
            go_wp2
            go_ret
            exact ⟨ret_bool Hno.out.symm, below_drewN hb _⟩
          · by_cases hbig : (p2 n : Int) ≤ X.getD k 0
            · have Hno := Lib.hid (isGraph_row (n := n) (R := X) (i := k) (by rw [hXX.out]; exact hlt) (fun h => by
                have := (rowOk_iff.1 h).2.1
                rw [hXX.out] at this
                exact absurd this (Int.not_lt.2 hbig)))
              have d0 : decide (X[k]?.getD 0 < 0) = false := by simpa using hneg
              have d1 : decide ((p2 n : Int) ≤ X[k]?.getD 0) = true := by simpa using hbig
              clear hneg hbig
              go_wp2_with fail
              go_quiet (fail)
              go_wp2
              go_ret
              exact ⟨ret_bool Hno.out.symm, below_drewN hb _⟩
            · obtain ⟨r, hxr, hr⟩ := nat_of (Int.not_lt.1 hneg) (Int.not_le.1 hbig)
              rw [hxr] at hca
              have Hxr := Lib.hid hxr
              have hrs : r < 9223372036854775808 := by omega
              have d0 : decide ((r : Int) < 0) = false := by simp only [decide_eq_false_iff_not]; omega
              have d1 : decide (p2 n ≤ r) = false := by simp only [decide_eq_false_iff_not]; omega
              clear hneg hbig hxr
              have hbk := bit_one r k hrs
              rcases Bool.eq_false_or_eq_true (r.testBit k) with e1 | e1
              · have Hno := Lib.hid (isGraph_row (n := n) (R := X) (i := k) (by rw [hXX.out]; exact hlt) (fun h => by
                  have := (rowOk_iff.1 h).2.2
                  rw [Hxr.out] at this
                  simp [e1] at this))
                rw [e1] at hbk
                clear e1
                go_wp2_with fail
                go_quiet (fail)
                go_wp2
                go_ret
                exact ⟨ret_bool Hno.out.symm, below_drewN hb _⟩
              · have HRow := Lib.hid (rowOk_iff (R := X) (k := n) (i := k).2 ⟨by rw [Hxr.out]; omega, by rw [Hxr.out]; exact Int.ofNat_lt.2 hr, by rw [Hxr.out]; simpa using e1⟩)
                rw [e1] at hbk
                clear e1
                go_wp2_with fail
                go_quiet (fail)
                go_wp2_with fail
                clear hbk
                go_loopw [4] (fun s wr => ∃ j : Nat, j ≤ n ∧ s = .int .i64 j ∧ Blk wr w.heap.size 29 #[.int .i64 n, .slice (some a) n c] ∧ Below w.heap.size w wr ∧ Hid (∀ b, b < j → r.testBit b = true → (X.getD b 0).toNat.testBit k = true)) (fun s _ => n - (intOf s).toNat)
                case atStart => exact ⟨0, Nat.zero_le _, rfl, hblk.drewN _, below_drewN hb _, fun j h => absurd h (by omega)⟩
                case round =>
                  obtain ⟨j, hj, rfl, hblk2, hb2, hall2⟩ := hrel
                  obtain ⟨hy0, hy1⟩ := hblk2.two
                  by_cases hjt : j < n
                  · obtain ⟨a0, e0, _, hca0⟩ := (hX.up hb2).at_ hlt
                    injection e0 with e0
                    subst e0
                    rw [Hxr.out] at hca0
                    obtain ⟨a', e', _, hca'⟩ := (hX.up hb2).at_ hjt
                    injection e' with e'
                    subst e'
                    have hbj := bit_one r j hrs
                    rcases Bool.eq_false_or_eq_true (r.testBit j) with e2 | e2
                    · have H2 := Lib.hid e2
                      rw [e2] at hbj
                      clear e2
                      by_cases hneg : X.getD j 0 < 0
                      · have Hno := Lib.hid (isGraph_row (n := n) (R := X) (i := j) (by rw [hXX.out]; exact hjt) (fun h => absurd (rowOk_iff.1 h).1 (by omega)))
                        have d2 : decide (X[j]?.getD 0 < 0) = true := by simpa using hneg
                        clear hneg
                        go_wp2_with fail
                        go_quiet (fail)
                        go_wp2
                        go_ret
                        exact ⟨ret_bool Hno.out.symm, below_drewN hb2 _⟩
                      · by_cases hbig : (p2 n : Int) ≤ X.getD j 0
                        · have Hno := Lib.hid (isGraph_row (n := n) (R := X) (i := j) (by rw [hXX.out]; exact hjt) (fun h => by
                            have := (rowOk_iff.1 h).2.1
                            rw [hXX.out] at this
                            exact absurd this (Int.not_lt.2 hbig)))
                          have d2 : decide (X[j]?.getD 0 < 0) = false := by simpa using hneg
                          have d3 : decide ((p2 n : Int) ≤ X[j]?.getD 0) = true := by simpa using hbig
                          clear hneg hbig
                          go_wp2_with fail
                          go_quiet (fail)
                          go_wp2
                          go_ret
                          exact ⟨ret_bool Hno.out.symm, below_drewN hb2 _⟩
                        · obtain ⟨s, hxs, hs⟩ := nat_of (Int.not_lt.1 hneg) (Int.not_le.1 hbig)
                          rw [hxs] at hca'
                          have Hxs := Lib.hid hxs
                          have hss : s < 9223372036854775808 := by omega
                          have d2 : decide ((s : Int) < 0) = false := by simp only [decide_eq_false_iff_not]; omega
                          have d3 : decide (p2 n ≤ s) = false := by simp only [decide_eq_false_iff_not]; omega
                          clear hneg hbig hxs
                          have hbz := bit_zero s k hss
                          rcases Bool.eq_false_or_eq_true (s.testBit k) with e3 | e3
                          · have Hok := Lib.hid (show (X.getD j 0).toNat.testBit k = true by rw [Hxs.out]; simpa using e3)
                            rw [e3] at hbz
                            clear e3
                            go_wp2_with fail
                            go_quiet (fail)
                            go_wp2
                            go_roundw
                            case rel => exact ⟨j + 1, by omega, by go_num, hblk2.drewN _, below_drewN hb2 _, fun b hb => by
                              rcases Nat.lt_succ_iff_lt_or_eq.1 hb with h' | rfl
                              · exact hall2.out b h'
                              · exact fun _ => Hok.out⟩
                            case measure => simp [intOf]; omega
                          · have Hno := Lib.hid (isGraph_pair (n := n) (R := X) (i := k) (j := j) (by rw [hXX.out]; exact hlt) (by rw [hXX.out]; exact hjt) (fun h => by
                              rw [symAt_iff, Hxr.out, Hxs.out] at h
                              simp [H2.out, e3] at h))
                            rw [e3] at hbz
                            clear e3
                            go_wp2_with fail
                            go_quiet (fail)
                            go_wp2
                            go_ret
                            exact ⟨ret_bool Hno.out.symm, below_drewN hb2 _⟩
                    · have H2 := Lib.hid e2
                      rw [e2] at hbj
                      clear e2
                      go_wp2_with fail
                      go_quiet (fail)
                      go_wp2
                      go_roundw
                      case rel => exact ⟨j + 1, by omega, by go_num, hblk2.drewN _, below_drewN hb2 _, fun b hb => by
                        rcases Nat.lt_succ_iff_lt_or_eq.1 hb with h' | rfl
                        · exact hall2.out b h'
                        · exact fun h => absurd (H2.out.symm.trans h) Bool.false_ne_true⟩
                      case measure => simp [intOf]; omega
                  · obtain rfl : j = n := by omega
                    go_wp2
                    go_roundw
                    case rel => exact ⟨k + 1, by omega, by go_num, hblk2, hb2, fun a ha => by
                      rcases Nat.lt_succ_iff_lt_or_eq.1 ha with h' | rfl
                      · exact hall.out a h'
                      · exact ⟨HRow.out, fun b hb h => hall2.out b hb (by rw [Hxr.out] at h; simpa using h)⟩⟩
                    case measure => simp [intOf]; omega
        · obtain rfl : k = n := by omega
          go_wp2
          go_ret
          exact ⟨ret_bool (isGraph_ref hn1 hn7 hXX.out (fun i hi => (hall.out i hi).1) (fun i hi => (hall.out i hi).2)).symm, hb⟩
    · have hne : ((n : Int) != N) = true := by simpa using hNn
      go_enter Tryz.func71, Tryz.ntmps71
      go_wp2_with (go_at_call 95; refine (l1In_yes _ _ _ _ h7).mono ?_; rintro e w' ⟨rfl, rfl⟩)
      go_ret
      exact ⟨ret_bool (isGraph_len (by rw [hXX.out]; omega)).symm, by go_grown⟩
  · go_enter Tryz.func71, Tryz.ntmps71
    go_wp2_with (go_at_call 95; refine (l1In_no _ _ _ _ h7).mono ?_; rintro e w' ⟨rfl, rfl⟩)
    go_ret
    exact ⟨ret_bool (isGraph_len (by rw [hXX.out]; omega)).symm, by go_grown⟩
set_option maxRecDepth 100000 in
theorem specIsGraph_is {N : Int} {A : Option Addr} {n c : Nat} {X : List Int} {w : World} {b : Bool} (hX : RI w A n X) (hn : n ≤ 9223372036854775807) (h : isGraph N X = b) :
    Calls Tryz.prog 71 #[.agg #[.int .i64 N, .slice A n c]] w fun e w' => e = .returned (.bool b) ∧ Below w.heap.size w w' := by
  subst h; exact specIsGraph_any N A n c X w hX hn
set_option maxRecDepth 100000 in
theorem implIsGraph_is {N : Int} {A : Option Addr} {n c : Nat} {X : List Int} {w : World} {b : Bool} (hX : RI w A n X) (hn : n ≤ 9223372036854775807) (h : isGraph N X = b) :
    Calls Tryz.prog 87 #[.agg #[.int .i64 N, .slice A n c]] w fun e w' => e = .returned (.bool b) ∧ Below w.heap.size w w' := by
  subst h; exact implIsGraph_any N A n c X w hX hn
end Go.Proofs.YthncdjcmlpiebaaGreatDoor
