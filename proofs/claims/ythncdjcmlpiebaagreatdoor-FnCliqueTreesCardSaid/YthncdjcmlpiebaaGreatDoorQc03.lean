/- Walks of chapter 2: graphs, in the program and in the reference. Walks of chapter 3: sets of vertices, in the program and in the reference. Rows of natural numbers as cells; what a store or an append elsewhere leaves; append as one step of a region that draws. The library's Clone of a slice of numbers; a slice held against nil; append to a slice that is full. Walks of chapter 3, second part: neighbours, cliques, independent sets. -/
import Derived.Test.YthncdjcmlpiebaaGreatDoorQc01
import Derived.Test.YthncdjcmlpiebaaGreatDoorQc02
import Derived.ArgAppend
import Derived.Deep.RegionHeld3
import Derived.Lib.SliceRun
import Derived.StillTailTactics
namespace Go.Proofs.YthncdjcmlpiebaaGreatDoor
open Go.RowKit

set_option maxRecDepth 100000 in
theorem RI.nb_at {w : World} {A : Option Addr} {n k : Nat} {Q : List Nat} (h : RI w A n (ints Q)) (hk : k < n) : ∃ ad, A = some ad ∧ w.cell? (ad.add k) = some (.int .i64 (nb Q k)) := by
  obtain ⟨ad, e, _, hc⟩ := h.at_ hk
  rw [ints_nb] at hc
  exact ⟨ad, e, hc⟩
set_option maxRecDepth 100000 in
theorem RI.nb_after {w : World} {A : Option Addr} {n k : Nat} {Q : List Nat} (h : RI w A n (ints Q)) (hk : k < n) : ∃ ad, A = some ad ∧ ∀ o, (w.alloc o).cell? (ad.add k) = some (.int .i64 (nb Q k)) := by
  obtain ⟨ad, e, hc⟩ := h.after hk
  rw [ints_nb] at hc
  exact ⟨ad, e, hc⟩
set_option maxRecDepth 100000 in
theorem p2_small {k r : Nat} (hk : k ≤ 7) (h : r < 2 ^ k) : r < 9223372036854775808 := Nat.lt_trans h (pow_small hk)
where pow_small {k : Nat} (hk : k ≤ 7) : 2 ^ k < 9223372036854775808 := Nat.lt_of_le_of_lt (Nat.pow_le_pow_right (by omega) hk) (by decide)
set_option maxRecDepth 100000 in
theorem within_any (n lo hi : Int) (w : World) : Calls Tryz.prog 66 #[.int .i64 n, .int .i64 lo, .int .i64 hi] w fun e w' => e = .returned (.bool (decide (lo ≤ n) && decide (n ≤ hi))) ∧ w = w' := by
  go_enter Tryz.func66, Tryz.ntmps66
  go_wp2
  all_goals (go_ret; simp [*])
  all_goals omega
set_option maxRecDepth 100000 in
theorem within_yes (n lo hi : Int) (w : World) (h : lo ≤ n ∧ n ≤ hi) : Calls Tryz.prog 66 #[.int .i64 n, .int .i64 lo, .int .i64 hi] w fun e w' => e = .returned (.bool true) ∧ w = w' :=
  (within_any n lo hi w).mono fun _ _ hh => ⟨by rw [hh.1]; simp [h], hh.2⟩
set_option maxRecDepth 100000 in
theorem within_no (n lo hi : Int) (w : World) (h : ¬ (lo ≤ n ∧ n ≤ hi)) : Calls Tryz.prog 66 #[.int .i64 n, .int .i64 lo, .int .i64 hi] w fun e w' => e = .returned (.bool false) ∧ w = w' :=
  (within_any n lo hi w).mono fun _ _ hh => ⟨by rw [hh.1]; simp; omega, hh.2⟩
set_option maxRecDepth 100000 in
theorem l1In_any (n lo hi : Int) (w : World) : Calls Tryz.prog 95 #[.int .i64 n, .int .i64 lo, .int .i64 hi] w fun e w' => e = .returned (.bool (decide (lo ≤ n) && decide (n ≤ hi))) ∧ w = w' := by
  go_enter Tryz.func95, Tryz.ntmps95
  go_wp2
  all_goals (go_ret; simp [*])
  all_goals omega
set_option maxRecDepth 100000 in
theorem l1In_yes (n lo hi : Int) (w : World) (h : lo ≤ n ∧ n ≤ hi) : Calls Tryz.prog 95 #[.int .i64 n, .int .i64 lo, .int .i64 hi] w fun e w' => e = .returned (.bool true) ∧ w' = w :=
  (l1In_any n lo hi w).mono fun _ _ hh => ⟨by rw [hh.1]; simp [h], hh.2.symm⟩
set_option maxRecDepth 100000 in
theorem l1In_no (n lo hi : Int) (w : World) (h : ¬ (lo ≤ n ∧ n ≤ hi)) : Calls Tryz.prog 95 #[.int .i64 n, .int .i64 lo, .int .i64 hi] w fun e w' => e = .returned (.bool false) ∧ w' = w :=
  (l1In_any n lo hi w).mono fun _ _ hh => ⟨by rw [hh.1]; simp; omega, hh.2.symm⟩
set_option maxRecDepth 100000 in
theorem l1In_eq {n lo hi : Int} {w : World} (h : lo ≤ n ∧ n ≤ hi) : Calls Tryz.prog 95 #[.int .i64 n, .int .i64 lo, .int .i64 hi] w fun e w' => e = .returned (.bool true) ∧ w = w' :=
  (l1In_any n lo hi w).mono fun _ _ hh => ⟨by rw [hh.1]; simp [h], hh.2⟩
set_option maxRecDepth 100000 in
theorem has_nat (s v : Nat) (w : World) (hs : s < 9223372036854775808) (hv : v ≤ 62) : Calls Tryz.prog 131 #[.int .i64 s, .int .i64 v] w fun e w' => e = .returned (.bool (s.testBit v)) ∧ w = w' := by
  have hb := bit_one s v hs
  go_enter Tryz.func131, Tryz.ntmps131
  go_wp2
  go_ret
  exact ⟨rfl, rfl⟩
set_option maxRecDepth 100000 in
theorem has_is {s v : Nat} {w : World} {b : Bool} (hs : s < 9223372036854775808) (hv : v ≤ 62) (h : s.testBit v = b) : Calls Tryz.prog 131 #[.int .i64 s, .int .i64 v] w fun e w' => e = .returned (.bool b) ∧ w' = w :=
  (has_nat s v w hs hv).mono fun _ _ hh => ⟨by rw [hh.1, h], hh.2.symm⟩
set_option maxRecDepth 100000 in
theorem has_eq {s v : Nat} {w : World} {b : Bool} (hs : s < 9223372036854775808) (hv : v ≤ 62) (h : s.testBit v = b) : Calls Tryz.prog 131 #[.int .i64 s, .int .i64 v] w fun e w' => e = .returned (.bool b) ∧ w = w' :=
  (has_nat s v w hs hv).mono fun _ _ hh => ⟨by rw [hh.1, h], hh.2⟩
set_option maxRecDepth 100000 in
theorem all_any (n : Nat) (A : Option Addr) (c k : Nat) (w : World) (h : n ≤ 7) : Calls Tryz.prog 92 #[.agg #[.int .i64 n, .slice A k c]] w fun e w' => e = .returned (.int .i64 ((p2 n - 1 : Nat) : Int)) ∧ Below w.heap.size w w' := by
  have hp := shl_p2 (k := n) (by omega)
  have h1 := p2_le h
  have h2 := p2_pos n
  go_enter Tryz.func92, Tryz.ntmps92
  go_wp2
  go_ret
  exact ⟨ret_int (by omega), by go_grown⟩
set_option maxRecDepth 100000 in
set_option maxHeartbeats 2000000 in
theorem implIsGraph_any (N : Int) (A : Option Addr) (n c : Nat) (X : List Int) (w : World) (hX : RI w A n X) (hn : n ≤ 9223372036854775807) :
    Calls Tryz.prog 87 #[.agg #[.int .i64 N, .slice A n c]] w fun e w' => e = .returned (.bool (isGraph N X)) ∧ Below w.heap.size w w' := by
  have hXX := Lib.hid hX.1
  by_cases h7 : 1 ≤ N ∧ N ≤ 7
  · by_cases hNn : (n : Int) = N
    · subst hNn
      have hn1 : 1 ≤ n := by omega
      have hn7 : n ≤ 7 := by omega
      have hp := shl_p2 (k := n) (by omega)
      have hp1 := p2_le hn7
      have hp2 := p2_pos n
      go_enter Tryz.func87, Tryz.ntmps87
      go_wp2_with (go_at_call 66; refine (within_yes _ _ _ _ h7).mono ?_; rintro e w' ⟨rfl, rfl⟩)
      go_loop [23] (fun i => ∃ k : Nat, k ≤ n ∧ i = .int .i64 k ∧ Hid (∀ j, j < k → rowOk X n j = true)) (fun i => n - (intOf i).toNat)
      case atStart => exact ⟨0, Nat.zero_le _, rfl, fun j h => absurd h (by omega)⟩
      case round =>
        obtain ⟨k, hk, rfl, hall⟩ := hrel
        by_cases hlt : k < n
        · obtain ⟨a, rfl, hca⟩ := hX.after hlt
          by_cases hr : 0 ≤ X[k]?.getD 0 ∧ X[k]?.getD 0 ≤ (p2 n : Int) - 1
          · obtain ⟨r, hxr⟩ : ∃ r : Nat, X.getD k 0 = r := ⟨(X[k]?.getD 0).toNat, by have : X.getD k 0 = X[k]?.getD 0 := rfl; omega⟩
            have hr2 : r < p2 n := by have : X.getD k 0 = X[k]?.getD 0 := rfl; omega
            rw [hxr] at hca
            have Hxr := Lib.hid hxr
            clear hxr hr
            rcases Bool.eq_false_or_eq_true (r.testBit k) with hbit | hbit
            · have Hno := Lib.hid (isGraph_row (n := n) (R := X) (i := k) (by rw [hXX.out]; exact hlt) (fun h => by
                have := (rowOk_iff.1 h).2.2
                rw [Hxr.out] at this
                simp [hbit] at this))
              go_wp2_with (first | (go_at_call 66; refine (within_yes _ _ _ _ (by omega)).mono ?_; rintro e w' ⟨rfl, rfl⟩) | (go_at_call 131; refine (has_is (by omega) (by omega) hbit).mono ?_; rintro e w' ⟨rfl, rfl⟩))
              go_ret
              exact ⟨ret_bool Hno.out.symm, by go_grown⟩
            · have Hok := Lib.hid (rowOk_iff (R := X) (k := n) (i := k).2 ⟨by rw [Hxr.out]; omega, by rw [Hxr.out]; exact Int.ofNat_lt.2 hr2, by rw [Hxr.out]; simpa using hbit⟩)
              go_wp2_with (first | (go_at_call 66; refine (within_yes _ _ _ _ (by omega)).mono ?_; rintro e w' ⟨rfl, rfl⟩) | (go_at_call 131; refine (has_is (by omega) (by omega) hbit).mono ?_; rintro e w' ⟨rfl, rfl⟩))
              go_round
              case rel => exact ⟨k + 1, by omega, by go_num, fun j hj => by
                rcases Nat.lt_succ_iff_lt_or_eq.1 hj with h' | rfl
                · exact hall.out j h'
                · exact Hok.out⟩
              case measure => simp [intOf]; omega
          · have Hno := Lib.hid (isGraph_row (n := n) (R := X) (i := k) (by rw [hXX.out]; exact hlt) (fun h => by
              have := rowOk_iff.1 h
              rw [hXX.out] at this
              exact hr ⟨this.1, Int.le_sub_one_of_lt this.2.1⟩))
            go_wp2_with (go_at_call 66; refine (within_no _ _ _ _ hr).mono ?_; rintro e w' ⟨rfl, rfl⟩)
            go_ret
            exact ⟨ret_bool Hno.out.symm, by go_grown⟩
        · obtain rfl : k = n := by omega
          obtain ⟨Q, rfl, hQl, hQr⟩ := rows_nat hXX.out hall.out
          have HQr := Lib.hid hQr
          have HQl := Lib.hid hQl
          clear hQr hQl hall
          go_wp2
          go_loopw [44] (fun s wr => ∃ i : Nat, i ≤ k ∧ s = .int .i64 i ∧ Blk wr w.heap.size 29 #[.int .i64 k, .slice A k c] ∧ Below w.heap.size w wr ∧ Hid (∀ a, a < i → ∀ b, b < a → (nb Q a).testBit b = (nb Q b).testBit a)) (fun s _ => k - (intOf s).toNat)
          case atStart => exact ⟨0, Nat.zero_le _, rfl, Blk.new _ _ _, by go_grown, fun j h => absurd h (by omega)⟩
          case round =>
            obtain ⟨i, hi, rfl, hblk, hb, hall⟩ := hrel
            obtain ⟨wo, rfl⟩ : ∃ wo : World, wo = wr := ⟨_, rfl⟩
            obtain ⟨hx0, hx1⟩ := hblk.two
            by_cases hlt : i < k
            · obtain ⟨a, rfl, hca⟩ := (hX.up hb).nb_at hlt
              have hri := p2_small hn7 (HQr.out i).1
              go_wp2_with fail
              go_loopw [50] (fun s wr => ∃ j : Nat, j ≤ i ∧ s = .int .i64 j ∧ Blk wr w.heap.size 29 #[.int .i64 k, .slice (some a) k c] ∧ Below w.heap.size w wr ∧ Hid (∀ b, b < j → (nb Q i).testBit b = (nb Q b).testBit i)) (fun s _ => i - (intOf s).toNat)
              case atStart => exact ⟨0, Nat.zero_le _, rfl, hblk, hb, fun j h => absurd h (by omega)⟩
              case round =>
                obtain ⟨j, hj, rfl, hblk2, hb2, hall2⟩ := hrel
                obtain ⟨hy0, hy1⟩ := hblk2.two
                by_cases hjt : j < i
                · obtain ⟨a', e', hca'⟩ := (hX.up hb2).nb_at (show j < k by omega)
                  injection e' with e'
                  subst e'
                  have hrj := p2_small hn7 (HQr.out j).1
                  rcases Bool.eq_false_or_eq_true ((nb Q i).testBit j) with e1 | e1 <;> rcases Bool.eq_false_or_eq_true ((nb Q j).testBit i) with e2 | e2
                  · have H1 := Lib.hid e1
                    have H2 := Lib.hid e2
                    clear e1 e2
                    go_wp2_with fail
                    go_quiet ((go_at_call 131; first | exact Calls.quiet_of_same (has_is hri (by omega) H1.out) | exact Calls.quiet_of_same (has_is hrj (by omega) H2.out)))
                    go_wp2
                    go_roundw
                    case rel => exact ⟨j + 1, by omega, by go_num, hblk2.drewN _, below_drewN hb2 _, fun b hb => by
                      rcases Nat.lt_succ_iff_lt_or_eq.1 hb with h' | rfl
                      · exact hall2.out b h'
                      · exact H1.out.trans H2.out.symm⟩
                    case measure => simp [intOf]; omega
                  · have Hno := Lib.hid (isGraph_pair (n := k) (R := ints Q) (i := i) (j := j) (by rw [hXX.out]; exact hlt) (by rw [hXX.out]; omega) (fun h => by rw [symAt_nb, e1, e2] at h; cases h))
                    have H1 := Lib.hid e1
                    have H2 := Lib.hid e2
                    clear e1 e2
                    go_wp2_with fail
                    go_quiet ((go_at_call 131; first | exact Calls.quiet_of_same (has_is hri (by omega) H1.out) | exact Calls.quiet_of_same (has_is hrj (by omega) H2.out)))
                    go_wp2
                    go_ret
                    exact ⟨ret_bool Hno.out.symm, below_drewN hb2 _⟩
                  · have Hno := Lib.hid (isGraph_pair (n := k) (R := ints Q) (i := i) (j := j) (by rw [hXX.out]; exact hlt) (by rw [hXX.out]; omega) (fun h => by rw [symAt_nb, e1, e2] at h; cases h))
                    have H1 := Lib.hid e1
                    have H2 := Lib.hid e2
                    clear e1 e2
                    go_wp2_with fail
                    go_quiet ((go_at_call 131; first | exact Calls.quiet_of_same (has_is hri (by omega) H1.out) | exact Calls.quiet_of_same (has_is hrj (by omega) H2.out)))
                    go_wp2
                    go_ret
                    exact ⟨ret_bool Hno.out.symm, below_drewN hb2 _⟩
                  · have H1 := Lib.hid e1
                    have H2 := Lib.hid e2
                    clear e1 e2
                    go_wp2_with fail
                    go_quiet ((go_at_call 131; first | exact Calls.quiet_of_same (has_is hri (by omega) H1.out) | exact Calls.quiet_of_same (has_is hrj (by omega) H2.out)))
                    go_wp2
                    go_roundw
                    case rel => exact ⟨j + 1, by omega, by go_num, hblk2.drewN _, below_drewN hb2 _, fun b hb => by
                      rcases Nat.lt_succ_iff_lt_or_eq.1 hb with h' | rfl
                      · exact hall2.out b h'
                      · exact H1.out.trans H2.out.symm⟩
                    case measure => simp [intOf]; omega
                · obtain rfl : j = i := by omega
                  go_wp2
                  go_roundw
                  case rel => exact ⟨j + 1, by omega, by go_num, hblk2, hb2, fun a ha => by
                    rcases Nat.lt_succ_iff_lt_or_eq.1 ha with h' | rfl
                    · exact hall.out a h'
                    · exact hall2.out⟩
                  case measure => simp [intOf]; omega
            · obtain rfl : i = k := by omega
              go_wp2
              go_ret
              exact ⟨ret_bool (isGraph_pairs hn1 hn7 HQl.out HQr.out hall.out).symm, hb⟩
    · have hne : ((n : Int) != N) = true := by simpa using hNn
      go_enter Tryz.func87, Tryz.ntmps87
      go_wp2_with (go_at_call 66; refine (within_yes _ _ _ _ h7).mono ?_; rintro e w' ⟨rfl, rfl⟩)
      go_ret
      exact ⟨ret_bool (isGraph_len (by rw [hXX.out]; omega)).symm, by go_grown⟩
  · go_enter Tryz.func87, Tryz.ntmps87
    go_wp2_with (go_at_call 66; refine (within_no _ _ _ _ h7).mono ?_; rintro e w' ⟨rfl, rfl⟩)
    go_ret
    exact ⟨ret_bool (isGraph_len (by rw [hXX.out]; omega)).symm, by go_grown⟩
set_option maxRecDepth 100000 in
theorem nat_of {x : Int} {n : Nat} (h0 : 0 ≤ x) (h1 : x < (p2 n : Int)) : ∃ r : Nat, x = r ∧ r < p2 n := ⟨x.toNat, by omega, by omega⟩
set_option maxRecDepth 100000 in
set_option maxHeartbeats 4000000 in
theorem specIsGraph_any (N : Int) (A : Option Addr) (n c : Nat) (X : List Int) (w : World) (hX : RI w A n X) (hn : n ≤ 9223372036854775807) :
    Calls Tryz.prog 71 #[.agg #[.int .i64 N, .slice A n c]] w fun e w' => e = .returned (.bool (isGraph N X)) ∧ Below w.heap.size w w' := by
  have hXX := Lib.hid hX.1
  by_cases h7 : 1 ≤ N ∧ N ≤ 7
  · by_cases hNn : (n : Int) = N
    · subst hNn
      have hn1 : 1 ≤ n := by omega
      have hn7 : n ≤ 7 := by omega
      have hp := shl_p2 (k := n) (by omega)
      have hp1 := p2_le hn7
      go_enter Tryz.func71, Tryz.ntmps71
      go_wp2_with (go_at_call 95; refine (l1In_yes _ _ _ _ h7).mono ?_; rintro e w' ⟨rfl, rfl⟩)
      go_loopw [3] (fun s wr => ∃ k : Nat, k ≤ n ∧ s = .int .i64 k ∧ Blk wr w.heap.size 29 #[.int .i64 n, .slice A n c] ∧ Below w.heap.size w wr ∧ Hid (∀ a, a < k → rowOk X n a = true ∧ ∀ b, b < n → (X.getD a 0).toNat.testBit b = true → (X.getD b 0).toNat.testBit a = true)) (fun s _ => n - (intOf s).toNat)
      case atStart => exact ⟨0, Nat.zero_le _, rfl, Blk.new _ _ _, by go_grown, fun j h => absurd h (by omega)⟩
      case round =>
        obtain ⟨k, hk, rfl, hblk, hb, hall⟩ := hrel
        obtain ⟨wo, rfl⟩ : ∃ wo : World, wo = wr := ⟨_, rfl⟩
        obtain ⟨hx0, hx1⟩ := hblk.two
        by_cases hlt : k < n
        · obtain ⟨a, rfl, _, hca⟩ := (hX.up hb).at_ hlt
          by_cases hneg : X.getD k 0 < 0
          · have Hno := Lib.hid (isGraph_row (n := n) (R := X) (i := k) (by rw [hXX.out]; exact hlt) (fun h => absurd (rowOk_iff.1 h).1 (by omega)))
            have d0 : decide (X[k]?.getD 0 < 0) = true := by simpa using hneg
            clear hneg
            go_wp2_with fail
            go_quiet (fail)
            go_wp2
            go_ret
            exact ⟨ret_bool Hno.out.symm, below_drewN hb _⟩
          · by_cases hbig : (p2 n : Int) ≤ X.getD k 0
            · have Hno := Lib.hid (isGraph_row (n := n) (R := X) (i := k) (by rw [hXX.out]; exact hlt) (fun h => by
                have := (rowOk_iff.1 h).2.1
                rw [hXX.out] at this
                exact absurd this (Int.not_lt.2 hbig)))
              have d0 : decide (X[k]?.getD 0 < 0) = false := by simpa using hneg
              have d1 : decide ((p2 n : Int) ≤ X[k]?.getD 0) = true := by simpa using hbig
              clear hneg hbig
              go_wp2_with fail
              go_quiet (fail)
              go_wp2
              go_ret
              exact ⟨ret_bool Hno.out.symm, below_drewN hb _⟩
            · obtain ⟨r, hxr, hr⟩ := nat_of (Int.not_lt.1 hneg) (Int.not_le.1 hbig)
              rw [hxr] at hca
              have Hxr := Lib.hid hxr
              have hrs : r < 9223372036854775808 := by omega
              have d0 : decide ((r : Int) < 0) = false := by simp only [decide_eq_false_iff_not]; omega
              have d1 : decide (p2 n ≤ r) = false := by simp only [decide_eq_false_iff_not]; omega
              clear hneg hbig hxr
              have hbk := bit_one r k hrs
              rcases Bool.eq_false_or_eq_true (r.testBit k) with e1 | e1
              · have Hno := Lib.hid (isGraph_row (n := n) (R := X) (i := k) (by rw [hXX.out]; exact hlt) (fun h => by
                  have := (rowOk_iff.1 h).2.2
                  rw [Hxr.out] at this
                  simp [e1] at this))
                rw [e1] at hbk
                clear e1
                go_wp2_with fail
                go_quiet (fail)
                go_wp2
                go_ret
                exact ⟨ret_bool Hno.out.symm, below_drewN hb _⟩
              · have HRow := Lib.hid (rowOk_iff (R := X) (k := n) (i := k).2 ⟨by rw [Hxr.out]; omega, by rw [Hxr.out]; exact Int.ofNat_lt.2 hr, by rw [Hxr.out]; simpa using e1⟩)
                rw [e1] at hbk
                clear e1
                go_wp2_with fail
                go_quiet (fail)
                go_wp2_with fail
                clear hbk
                go_loopw [4] (fun s wr => ∃ j : Nat, j ≤ n ∧ s = .int .i64 j ∧ Blk wr w.heap.size 29 #[.int .i64 n, .slice (some a) n c] ∧ Below w.heap.size w wr ∧ Hid (∀ b, b < j → r.testBit b = true → (X.getD b 0).toNat.testBit k = true)) (fun s _ => n - (intOf s).toNat)
                case atStart => exact ⟨0, Nat.zero_le _, rfl, hblk.drewN _, below_drewN hb _, fun j h => absurd h (by omega)⟩
                case round =>
                  obtain ⟨j, hj, rfl, hblk2, hb2, hall2⟩ := hrel
                  obtain ⟨hy0, hy1⟩ := hblk2.two
                  by_cases hjt : j < n
                  · obtain ⟨a0, e0, _, hca0⟩ := (hX.up hb2).at_ hlt
                    injection e0 with e0
                    subst e0
                    rw [Hxr.out] at hca0
                    obtain ⟨a', e', _, hca'⟩ := (hX.up hb2).at_ hjt
                    injection e' with e'
                    subst e'
                    have hbj := bit_one r j hrs
                    rcases Bool.eq_false_or_eq_true (r.testBit j) with e2 | e2
                    · have H2 := Lib.hid e2
                      rw [e2] at hbj
                      clear e2
                      by_cases hneg : X.getD j 0 < 0
                      · have Hno := Lib.hid (isGraph_row (n := n) (R := X) (i := j) (by rw [hXX.out]; exact hjt) (fun h => absurd (rowOk_iff.1 h).1 (by omega)))
                        have d2 : decide (X[j]?.getD 0 < 0) = true := by simpa using hneg
                        clear hneg
                        go_wp2_with fail
                        go_quiet (fail)
                        go_wp2
                        go_ret
                        exact ⟨ret_bool Hno.out.symm, below_drewN hb2 _⟩
                      · by_cases hbig : (p2 n : Int) ≤ X.getD j 0
                        · have Hno := Lib.hid (isGraph_row (n := n) (R := X) (i := j) (by rw [hXX.out]; exact hjt) (fun h => by
                            have := (rowOk_iff.1 h).2.1
                            rw [hXX.out] at this
                            exact absurd this (Int.not_lt.2 hbig)))
                          have d2 : decide (X[j]?.getD 0 < 0) = false := by simpa using hneg
                          have d3 : decide ((p2 n : Int) ≤ X[j]?.getD 0) = true := by simpa using hbig
                          clear hneg hbig
                          go_wp2_with fail
                          go_quiet (fail)
                          go_wp2
                          go_ret
                          exact ⟨ret_bool Hno.out.symm, below_drewN hb2 _⟩
                        · obtain ⟨s, hxs, hs⟩ := nat_of (Int.not_lt.1 hneg) (Int.not_le.1 hbig)
                          rw [hxs] at hca'
                          have Hxs := Lib.hid hxs
                          have hss : s < 9223372036854775808 := by omega
                          have d2 : decide ((s : Int) < 0) = false := by simp only [decide_eq_false_iff_not]; omega
                          have d3 : decide (p2 n ≤ s) = false := by simp only [decide_eq_false_iff_not]; omega
                          clear hneg hbig hxs
                          have hbz := bit_zero s k hss
                          rcases Bool.eq_false_or_eq_true (s.testBit k) with e3 | e3
                          · have Hok := Lib.hid (show (X.getD j 0).toNat.testBit k = true by rw [Hxs.out]; simpa using e3)
                            rw [e3] at hbz
                            clear e3
                            go_wp2_with fail
                            go_quiet (fail)
                            go_wp2
                            go_roundw
                            case rel => exact ⟨j + 1, by omega, by go_num, hblk2.drewN _, below_drewN hb2 _, fun b hb => by
                              rcases Nat.lt_succ_iff_lt_or_eq.1 hb with h' | rfl
                              · exact hall2.out b h'
                              · exact fun _ => Hok.out⟩
                            case measure => simp [intOf]; omega
                          · have Hno := Lib.hid (isGraph_pair (n := n) (R := X) (i := k) (j := j) (by rw [hXX.out]; exact hlt) (by rw [hXX.out]; exact hjt) (fun h => by
                              rw [symAt_iff, Hxr.out, Hxs.out] at h
                              simp [H2.out, e3] at h))
                            rw [e3] at hbz
                            clear e3
                            go_wp2_with fail
                            go_quiet (fail)
                            go_wp2
                            go_ret
                            exact ⟨ret_bool Hno.out.symm, below_drewN hb2 _⟩
                    · have H2 := Lib.hid e2
                      rw [e2] at hbj
                      clear e2
                      go_wp2_with fail
                      go_quiet (fail)
                      go_wp2
                      go_roundw
                      case rel => exact ⟨j + 1, by omega, by go_num, hblk2.drewN _, below_drewN hb2 _, fun b hb => by
                        rcases Nat.lt_succ_iff_lt_or_eq.1 hb with h' | rfl
                        · exact hall2.out b h'
                        · exact fun h => absurd (H2.out.symm.trans h) Bool.false_ne_true⟩
                      case measure => simp [intOf]; omega
                  · obtain rfl : j = n := by omega
                    go_wp2
                    go_roundw
                    case rel => exact ⟨k + 1, by omega, by go_num, hblk2, hb2, fun a ha => by
                      rcases Nat.lt_succ_iff_lt_or_eq.1 ha with h' | rfl
                      · exact hall.out a h'
                      · exact ⟨HRow.out, fun b hb h => hall2.out b hb (by rw [Hxr.out] at h; simpa using h)⟩⟩
                    case measure => simp [intOf]; omega
        · obtain rfl : k = n := by omega
          go_wp2
          go_ret
          exact ⟨ret_bool (isGraph_ref hn1 hn7 hXX.out (fun i hi => (hall.out i hi).1) (fun i hi => (hall.out i hi).2)).symm, hb⟩
    · have hne : ((n : Int) != N) = true := by simpa using hNn
      go_enter Tryz.func71, Tryz.ntmps71
      go_wp2_with (go_at_call 95; refine (l1In_yes _ _ _ _ h7).mono ?_; rintro e w' ⟨rfl, rfl⟩)
      go_ret
      exact ⟨ret_bool (isGraph_len (by rw [hXX.out]; omega)).symm, by go_grown⟩
  · go_enter Tryz.func71, Tryz.ntmps71
    go_wp2_with (go_at_call 95; refine (l1In_no _ _ _ _ h7).mono ?_; rintro e w' ⟨rfl, rfl⟩)
    go_ret
    exact ⟨ret_bool (isGraph_len (by rw [hXX.out]; omega)).symm, by go_grown⟩
set_option maxRecDepth 100000 in
theorem specIsGraph_is {N : Int} {A : Option Addr} {n c : Nat} {X : List Int} {w : World} {b : Bool} (hX : RI w A n X) (hn : n ≤ 9223372036854775807) (h : isGraph N X = b) :
    Calls Tryz.prog 71 #[.agg #[.int .i64 N, .slice A n c]] w fun e w' => e = .returned (.bool b) ∧ Below w.heap.size w w' := by
  subst h; exact specIsGraph_any N A n c X w hX hn
set_option maxRecDepth 100000 in
theorem implIsGraph_is {N : Int} {A : Option Addr} {n c : Nat} {X : List Int} {w : World} {b : Bool} (hX : RI w A n X) (hn : n ≤ 9223372036854775807) (h : isGraph N X = b) :
    Calls Tryz.prog 87 #[.agg #[.int .i64 N, .slice A n c]] w fun e w' => e = .returned (.bool b) ∧ Below w.heap.size w w' := by
  subst h; exact implIsGraph_any N A n c X w hX hn
end Go.Proofs.YthncdjcmlpiebaaGreatDoor
namespace Go.Proofs.YthncdjcmlpiebaaGreatDoor
open Go.RowKit

set_option maxRecDepth 100000 in
theorem ints_snoc (l : List Nat) (k : Nat) : ints l ++ [(k : Int)] = ints (l ++ [k]) := by simp [ints]
set_option maxRecDepth 100000 in
theorem OwnI.cast {w : World} {base n m c : Nat} {A : Option Addr} {xs ys : List Int} (h : OwnI w base A n c xs) (hn : n = m) (hx : xs = ys) : OwnI w base A m c ys := by subst hn hx; exact h
set_option maxRecDepth 100000 in
theorem givesI_of {l : List Nat} {w : World} {w' : World} {A : Option Addr} {c : Nat} (h : OwnI w' w.heap.size A l.length c (ints l)) (hb : Below w.heap.size w w') : GivesI (ints l) w (.returned (.slice A l.length c)) w' :=
  ⟨A, c, by rw [ints_len], h.cast (ints_len l).symm rfl, hb⟩
set_option maxRecDepth 100000 in
/-- A list of sets or vertices that the call made: as the callers take it. -/
theorem GivesI.out {l : List Nat} {w : World} {e : Ending} {w' : World} (h : GivesI (ints l) w e w') : ∃ A c, e = .returned (.slice A l.length c) ∧ OwnI w' w.heap.size A l.length c (ints l) ∧ Below w.heap.size w w' := by
  obtain ⟨A, c, h1, h2, h3⟩ := h
  exact ⟨A, c, by rw [h1, ints_len], h2.cast (ints_len l) rfl, h3⟩
set_option maxRecDepth 100000 in
theorem push_len {l : List Nat} {k : Nat} : l.length + 1 = (l ++ [k]).length := by simp
set_option maxRecDepth 100000 in
set_option maxHeartbeats 800000 in
theorem implListOf_any (s : Nat) (w : World) (hs : s < 128) : Calls Tryz.prog 86 #[.int .i64 s] w (GivesI (ints (listOf s)) w) := by
  go_enter Tryz.func86, Tryz.ntmps86
  go_wp2_with (go_at_call 66; refine (within_yes _ _ _ _ (by omega)).mono ?_; rintro e w' ⟨rfl, rfl⟩)
  go_loopw [3, 10] (fun v i wr => ∃ (k : Nat) (A : Option Addr) (c : Nat), k ≤ 7 ∧ i = .int .i64 k ∧ v = .slice A (listK s k).length c ∧ OwnI wr w.heap.size A (listK s k).length c (ints (listK s k)) ∧ Below w.heap.size w wr) (fun _ i _ => 7 - (intOf i).toNat)
  case atStart => exact ⟨0, _, _, Nat.zero_le _, rfl, rfl, OwnI.made w (Nat.le_refl _), (Below.refl _ _).alloc (Nat.le_refl _) _⟩
  case round =>
    obtain ⟨k, A, c, hk, rfl, rfl, hown, hb⟩ := hrel
    have hll := listK_len s k
    have hsz := hb.size
    by_cases hlt : k < 7
    · rcases Bool.eq_false_or_eq_true (s.testBit k) with e1 | e1
      · have H1 := Lib.hid e1
        clear e1
        have hcell := (Blk.new wr 3 #[.int .i64 (k : Int)]).one
        go_wp2_with (first | (go_at_call 131; refine (has_eq (by omega) (by omega) H1.out).mono ?_; rintro e w' ⟨rfl, rfl⟩) | (at_builtin; refine wpList_push rfl (.tmp 16) (.tmp 18) rfl (k : Int) rfl (hown.alloc _) ⟨wr.heap.size, 0, none⟩ rfl hcell (by omega) (by simp; omega) ?_; intro A' c' w1 hown1 hb1 hg1))
        go_roundw
        case rel => exact ⟨k + 1, A', c', by omega, by go_num, by rw [listK_yes H1.out, ← push_len], hown1.cast (by rw [listK_yes H1.out, ← push_len]) (by rw [listK_yes H1.out, ints_snoc]), (hb.alloc hsz _).trans hb1⟩
        case measure => simp [intOf]; omega
      · have H1 := Lib.hid e1
        clear e1
        go_wp2_with (go_at_call 131; refine (has_eq (by omega) (by omega) H1.out).mono ?_; rintro e w' ⟨rfl, rfl⟩)
        go_roundw
        case rel => exact ⟨k + 1, A, c, by omega, by go_num, by rw [listK_no H1.out], hown.cast (by rw [listK_no H1.out]) (by rw [listK_no H1.out]), hb⟩
        case measure => simp [intOf]; omega
    · obtain rfl : k = 7 := by omega
      go_wp2
      go_ret
      exact givesI_of hown hb
set_option maxRecDepth 100000 in
theorem l3Fine_any (n : Int) (w : World) : Calls Tryz.prog 106 #[.int .i64 n] w fun e w' => e = .returned (.bool (decide (0 ≤ n) && decide (n ≤ 127))) ∧ w = w' := by
  go_enter Tryz.func106, Tryz.ntmps106
  go_wp2_with (go_at_call 95; refine (l1In_any _ _ _ _).mono ?_; rintro e w' ⟨rfl, rfl⟩)
  go_ret
  exact ⟨rfl, rfl⟩
set_option maxRecDepth 100000 in
theorem l3Fine_yes (n : Int) (w : World) (h : 0 ≤ n ∧ n ≤ 127) : Calls Tryz.prog 106 #[.int .i64 n] w fun e w' => e = .returned (.bool true) ∧ w = w' :=
  (l3Fine_any n w).mono fun _ _ hh => ⟨by rw [hh.1]; simp [h], hh.2⟩
set_option maxRecDepth 100000 in
theorem l3Fine_no (n : Int) (w : World) (h : ¬ (0 ≤ n ∧ n ≤ 127)) : Calls Tryz.prog 106 #[.int .i64 n] w fun e w' => e = .returned (.bool false) ∧ w = w' :=
  (l3Fine_any n w).mono fun _ _ hh => ⟨by rw [hh.1]; simp; omega, hh.2⟩
set_option maxRecDepth 100000 in
set_option maxHeartbeats 800000 in
theorem specListOf_any (s : Nat) (w : World) (hs : s < 128) : Calls Tryz.prog 73 #[.int .i64 s] w (GivesI (ints (listOf s)) w) := by
  go_enter Tryz.func73, Tryz.ntmps73
  go_wp2_with fail
  go_loopw [3, 4] (fun v i wr => ∃ (k : Nat) (A : Option Addr) (c : Nat), k ≤ 7 ∧ i = .int .i64 k ∧ v = .slice A (listK s k).length c ∧ OwnI wr w.heap.size A (listK s k).length c (ints (listK s k)) ∧ Below w.heap.size w wr) (fun _ i _ => 7 - (intOf i).toNat)
  case atStart => exact ⟨0, _, _, Nat.zero_le _, rfl, rfl, OwnI.made w (Nat.le_refl _), (Below.refl _ _).alloc (Nat.le_refl _) _⟩
  case round =>
    obtain ⟨k, A, c, hk, rfl, rfl, hown, hb⟩ := hrel
    have hll := listK_len s k
    have hsz := hb.size
    by_cases hlt : k < 7
    · have hbit := bit_one s k (by omega)
      rcases Bool.eq_false_or_eq_true (s.testBit k) with e1 | e1
      · have H1 := Lib.hid e1
        rw [e1] at hbit
        clear e1
        have hcell := (Blk.new wr 3 #[.int .i64 (k : Int)]).one
        go_wp2_with (first | (go_at_call 106; refine (l3Fine_yes _ _ (by omega)).mono ?_; rintro e w' ⟨rfl, rfl⟩) | (at_builtin; refine wpList_push rfl (.tmp 19) (.tmp 21) rfl (k : Int) rfl (hown.alloc _) ⟨wr.heap.size, 0, none⟩ rfl hcell (by omega) (by simp; omega) ?_; intro A' c' w1 hown1 hb1 hg1))
        go_roundw
        case rel => exact ⟨k + 1, A', c', by omega, by go_num, by rw [listK_yes H1.out, ← push_len], hown1.cast (by rw [listK_yes H1.out, ← push_len]) (by rw [listK_yes H1.out, ints_snoc]), (hb.alloc hsz _).trans hb1⟩
        case measure => simp [intOf]; omega
      · have H1 := Lib.hid e1
        rw [e1] at hbit
        clear e1
        go_wp2_with (go_at_call 106; refine (l3Fine_yes _ _ (by omega)).mono ?_; rintro e w' ⟨rfl, rfl⟩)
        go_roundw
        case rel => exact ⟨k + 1, A, c, by omega, by go_num, by rw [listK_no H1.out], hown.cast (by rw [listK_no H1.out]) (by rw [listK_no H1.out]), hb⟩
        case measure => simp [intOf]; omega
    · obtain rfl : k = 7 := by omega
      go_wp2
      go_ret
      exact givesI_of hown hb
set_option maxRecDepth 100000 in
theorem implCountSet_any (s : Nat) (w : World) (hs : s < 128) : Calls Tryz.prog 63 #[.int .i64 s] w fun e w' => e = .returned (.int .i64 (card s)) ∧ Below w.heap.size w w' := by
  go_enter Tryz.func63, Tryz.ntmps63
  go_wp2_with fail
  refine (implListOf_any s w hs).mono ?_
  intro e w1 hg
  obtain ⟨A, c, rfl, hown, hb⟩ := hg.out
  clear hg
  go_wp2
  go_ret
  exact ⟨rfl, hb⟩
set_option maxRecDepth 100000 in
theorem specCountSet_any (s : Nat) (w : World) (hs : s < 128) : Calls Tryz.prog 20 #[.int .i64 s] w fun e w' => e = .returned (.int .i64 (card s)) ∧ Below w.heap.size w w' := by
  go_enter Tryz.func20, Tryz.ntmps20
  go_wp2_with fail
  refine (specListOf_any s w hs).mono ?_
  intro e w1 hg
  obtain ⟨A, c, rfl, hown, hb⟩ := hg.out
  clear hg
  go_wp2
  go_ret
  exact ⟨rfl, hb⟩
set_option maxRecDepth 100000 in
theorem implIsSet_any (N : Int) (A : Option Addr) (n c : Nat) (X : List Int) (s : Int) (w : World) (hX : RI w A n X) (hn : n ≤ 9223372036854775807) :
    Calls Tryz.prog 97 #[.agg #[.int .i64 N, .slice A n c], .int .i64 s] w fun e w' => e = .returned (.bool (isSet N X s)) ∧ Below w.heap.size w w' := by
  have hXX := Lib.hid hX.1
  rcases Bool.eq_false_or_eq_true (isGraph N X) with hg | hg
  · have sp := isGraph_spec hg
    have Hg := Lib.hid hg
    obtain ⟨k, rfl⟩ : ∃ k : Nat, N = k := ⟨N.toNat, by omega⟩
    have hk7 : k ≤ 7 := by omega
    have Hkn : Hid (X.length = k) := by have := sp.2.2.1; exact (by omega : X.length = k)
    clear sp hg
    have hp := p2_pos k
    have hp1 := p2_le hk7
    go_enter Tryz.func97, Tryz.ntmps97
    go_wp2_with fail
    refine (implIsGraph_is (hX.up (by go_grown)) hn Hg.out).mono ?_
    rintro e w1 ⟨rfl, hb1⟩
    have hw1 : Below w.heap.size w w1 := Up.then_ (by go_grown) hb1
    obtain ⟨hc1, hf1⟩ := bcell hb1
    have hz1 := hb1.size
    try simp only [World.size_alloc] at hz1
    try simp only [World.size_setCell] at hz1
    try simp only [World.size_alloc] at hz1
    try simp only [World.size_drew] at hz1
    have hl1_0 : w.heap.size < w1.heap.size := by omega
    go_wp2_with fail
    refine (all_any k A c n w1 hk7).mono ?_
    rintro e w2 ⟨rfl, hb2⟩
    have hw2 : Below w.heap.size w w2 := Up.then_ (by go_grown) hb2
    obtain ⟨hc2, hf2⟩ := bcell hb2
    have hz2 := hb2.size
    try simp only [World.size_alloc] at hz2
    try simp only [World.size_setCell] at hz2
    try simp only [World.size_alloc] at hz2
    try simp only [World.size_drew] at hz2
    have hl2_0 : w.heap.size < w2.heap.size := by omega
    go_wp2_with (go_at_call 66; refine (within_any _ _ _ _).mono ?_; rintro e w' ⟨rfl, rfl⟩)
    go_ret
    refine ⟨ret_bool ?_, by go_grown⟩
    rw [Bool.eq_iff_iff, isSet_iff Hg.out, Hkn.out]
    simp only [Bool.and_eq_true, decide_eq_true_eq]
    have : (2 ^ k : Nat) = p2 k := rfl
    rw [this]
    omega
  · have Hg := Lib.hid hg
    have Hno := Lib.hid (isSet_no (s := s) hg)
    clear hg
    go_enter Tryz.func97, Tryz.ntmps97
    go_wp2_with fail
    refine (implIsGraph_is (hX.up (by go_grown)) hn Hg.out).mono ?_
    rintro e w1 ⟨rfl, hb1⟩
    have hw1 : Below w.heap.size w w1 := Up.then_ (by go_grown) hb1
    obtain ⟨hc1, hf1⟩ := bcell hb1
    have hz1 := hb1.size
    try simp only [World.size_alloc] at hz1
    try simp only [World.size_setCell] at hz1
    try simp only [World.size_alloc] at hz1
    try simp only [World.size_drew] at hz1
    have hl1_0 : w.heap.size < w1.heap.size := by omega
    go_wp2
    go_ret
    exact ⟨ret_bool Hno.out.symm, by go_grown⟩
set_option maxRecDepth 100000 in
theorem specIsSet_any (N : Int) (A : Option Addr) (n c : Nat) (X : List Int) (s : Int) (w : World) (hX : RI w A n X) (hn : n ≤ 9223372036854775807) :
    Calls Tryz.prog 100 #[.agg #[.int .i64 N, .slice A n c], .int .i64 s] w fun e w' => e = .returned (.bool (isSet N X s)) ∧ Below w.heap.size w w' := by
  have hXX := Lib.hid hX.1
  rcases Bool.eq_false_or_eq_true (isGraph N X) with hg | hg
  · have sp := isGraph_spec hg
    have Hg := Lib.hid hg
    obtain ⟨k, rfl⟩ : ∃ k : Nat, N = k := ⟨N.toNat, by omega⟩
    have hk7 : k ≤ 7 := by omega
    have Hkn : Hid (X.length = k) := by have := sp.2.2.1; exact (by omega : X.length = k)
    clear sp hg
    have hp := shl_p2 (k := k) (by omega)
    go_enter Tryz.func100, Tryz.ntmps100
    go_wp2_with fail
    refine (specIsGraph_is (hX.up (by go_grown)) hn Hg.out).mono ?_
    rintro e w1 ⟨rfl, hb1⟩
    have hw1 : Below w.heap.size w w1 := Up.then_ (by go_grown) hb1
    obtain ⟨hc1, hf1⟩ := bcell hb1
    have hz1 := hb1.size
    try simp only [World.size_alloc] at hz1
    try simp only [World.size_setCell] at hz1
    try simp only [World.size_alloc] at hz1
    try simp only [World.size_drew] at hz1
    have hl1_0 : w.heap.size < w1.heap.size := by omega
    by_cases h0 : 0 ≤ s
    · go_wp2
      go_ret
      refine ⟨ret_bool ?_, by go_grown⟩
      rw [Bool.eq_iff_iff, isSet_iff Hg.out, Hkn.out]
      simp only [decide_eq_true_eq]
      have : (2 ^ k : Nat) = p2 k := rfl
      rw [this]
      omega
    · go_wp2
      go_ret
      refine ⟨ret_bool ?_, by go_grown⟩
      symm
      rw [← Bool.not_eq_true, isSet_iff Hg.out]
      omega
  · have Hg := Lib.hid hg
    have Hno := Lib.hid (isSet_no (s := s) hg)
    clear hg
    go_enter Tryz.func100, Tryz.ntmps100
    go_wp2_with fail
    refine (specIsGraph_is (hX.up (by go_grown)) hn Hg.out).mono ?_
    rintro e w1 ⟨rfl, hb1⟩
    have hw1 : Below w.heap.size w w1 := Up.then_ (by go_grown) hb1
    obtain ⟨hc1, hf1⟩ := bcell hb1
    have hz1 := hb1.size
    try simp only [World.size_alloc] at hz1
    try simp only [World.size_setCell] at hz1
    try simp only [World.size_alloc] at hz1
    try simp only [World.size_drew] at hz1
    have hl1_0 : w.heap.size < w1.heap.size := by omega
    go_wp2
    go_ret
    exact ⟨ret_bool Hno.out.symm, by go_grown⟩
set_option maxRecDepth 100000 in
theorem GOk.isSet {n s : Nat} {Q : List Nat} (h : GOk n Q) (hs : s < 2 ^ n) : isSet n (ints Q) s = true := by
  rw [isSet_iff h.is, ints_len, h.len]
  omega
set_option maxRecDepth 100000 in
theorem GOk.n7 {n : Nat} {Q : List Nat} (h : GOk n Q) {s : Nat} (hs : s < 2 ^ n) : s < 128 := Nat.lt_of_lt_of_le hs (Nat.pow_le_pow_right (n := 2) (by omega) h.le)
set_option maxRecDepth 100000 in
theorem GOk.nb7 {n : Nat} {Q : List Nat} (h : GOk n Q) (v : Nat) : nb Q v < 128 := h.n7 (h.lt v)
set_option maxRecDepth 100000 in
theorem implIsSet_ok {A : Option Addr} {n c s : Nat} {Q : List Nat} {w : World} (hX : RI w A n (ints Q)) (h : GOk n Q) (hs : s < 2 ^ n) :
    Calls Tryz.prog 97 #[.agg #[.int .i64 n, .slice A n c], .int .i64 s] w fun e w' => e = .returned (.bool true) ∧ Below w.heap.size w w' :=
  (implIsSet_any n A n c (ints Q) s w hX (by have := h.le; omega)).mono fun _ _ hh => ⟨by rw [hh.1, h.isSet hs], hh.2⟩
set_option maxRecDepth 100000 in
theorem specIsSet_ok {A : Option Addr} {n c s : Nat} {Q : List Nat} {w : World} (hX : RI w A n (ints Q)) (h : GOk n Q) (hs : s < 2 ^ n) :
    Calls Tryz.prog 100 #[.agg #[.int .i64 n, .slice A n c], .int .i64 s] w fun e w' => e = .returned (.bool true) ∧ Below w.heap.size w w' :=
  (specIsSet_any n A n c (ints Q) s w hX (by have := h.le; omega)).mono fun _ _ hh => ⟨by rw [hh.1, h.isSet hs], hh.2⟩
end Go.Proofs.YthncdjcmlpiebaaGreatDoor
namespace Go.Proofs.YthncdjcmlpiebaaGreatDoor
open Go.RowKit
/-- A row of numbers as cells. -/
def natCells (o : List Nat) : Array Value := ((ints o).map (Value.int .i64)).toArray
set_option maxRecDepth 100000 in
theorem natCells_get {o : List Nat} {j : Nat} (h : j < o.length) : (natCells o)[j]? = some (.int .i64 (nb o j)) := by
  simp [natCells, ints, nb, List.getD, List.getElem?_eq_getElem h]
set_option maxRecDepth 100000 in
theorem natCells_set (o : List Nat) (x y : Nat) : (natCells o).setIfInBounds x (.int .i64 (y : Int)) = natCells (o.set x y) := by
  simp only [natCells, ints, List.setIfInBounds_toArray, List.map_set]
set_option maxRecDepth 100000 in
theorem natCells_zero (n : Nat) : natCells (List.replicate n 0) = zeros n := by simp [natCells, ints, zeros]
set_option maxRecDepth 100000 in
theorem natCells_size (o : List Nat) : (natCells o).size = o.length := by simp [natCells, ints]
set_option maxRecDepth 100000 in
theorem Blk.nat {w : World} {g j : Nat} {t : TypeId} {o : List Nat} (h : Blk w g t (natCells o)) (hj : j < o.length) : w.cell? ⟨g, j, none⟩ = some (.int .i64 (nb o j)) := by rw [h.cell, natCells_get hj]
set_option maxRecDepth 100000 in
theorem grown_setCell (w : World) (p : Addr) (u : Value) : w.grownBy (w.setCell p u) (some p.block) :=
  ⟨rfl, rfl, rfl, by simp, fun i _ hne => Below.heap_setCell w p u i (fun e => hne (by rw [e]))⟩
set_option maxRecDepth 100000 in
/-- What is the call's own, in blocks from base on, is as it was behind a store below. -/
theorem OwnI.far_store {w : World} {base n c g i : Nat} {A : Option Addr} {xs : List Int} (h : OwnI w base A n c xs) (hg : g < base) (u : Value) : OwnI ((w.setCell ⟨g, i, none⟩ u).drew) base A n c xs := by
  refine OwnI.drew ?_
  rcases hv : (Value.slice A n c).ownBlock with _ | k
  · exact h.kept (grown_setCell w ⟨g, i, none⟩ u) (.inl hv)
  · refine h.kept (grown_setCell w ⟨g, i, none⟩ u) (.inr ?_)
    have := (h.block k hv).1
    rw [hv]
    intro e
    injection e with e
    subst e
    exact absurd hg (Nat.not_lt.2 this)
set_option maxRecDepth 100000 in
theorem OwnI.cap {w : World} {base n c : Nat} {A : Option Addr} {xs : List Int} (h : OwnI w base A n c xs) : n ≤ c ∧ c ≤ 9223372036854775807 := by
  have hx : (xs.map (Value.int .i64)).length = n := by have := h.1; omega
  rcases h.2 with ⟨hv, h0⟩ | ⟨g, cap, cur, hv, _, _, h1, h2, _⟩
  · injection hv with _ h1 h2
    omega
  · injection hv with _ h3 h4
    unfold maxLen at h2
    omega
set_option maxRecDepth 100000 in
/-- 'append(v, xs...)', v the call's own, as one step of a region that draws. -/
theorem step_append_own {ops : Array Oper} {o : Oper} {a : Act} {w : World} {K : Act → World → Prop} {Q : Exit → Act → World → Prop} {E : Prop}
    (hgd : o.guard = none) (s x : Operand) (ho : o.op = .call { callee := .builtin .append, args := #[s, x], argTypes := #[24, 24] })
    {base n c m d : Nat} {A : Option Addr} {ad : Addr} {xs ys : List Int} (hs : a.eval s = .slice A n c) (hown : OwnI w base A n c xs)
    (hx : a.eval x = .slice (some ad) m d) (hri : RI w (some ad) m ys) (hn : n + m ≤ 1048576) (hbase : base ≤ w.heap.size)
    (hK : ∀ A' c' w', OwnI w' base A' (n + m) c' (xs ++ ys) → Below base w w' → w.grownBy w' (Value.slice A n c).ownBlock → K (a.put o.dst (.slice A' (n + m) c')) w') :
    if Region.wanted o (yielded ops a.tmps) = true then Oper.wp Tryz.prog o a w K Q else E := by
  have hw : Region.wanted o (yielded ops a.tmps) = true := by simp [Region.wanted, hgd]
  rw [if_pos hw]
  obtain ⟨i0, hi, hz0, hz1, hz2⟩ := info_parts Tryz.info3
  have hl : ys.length = m := hri.1
  refine wp_append_own w s x 24 ho base 3 i0 (.int .i64 0) 1 8 Tryz.underlying24 hi hz0 hz1 hz2 rfl (by decide) _ n _ hs hown ad m d (ys.map (Value.int .i64)) hx (by simp [hl]) ?_ ?_ (by unfold maxLen; omega) (by omega) hbase ?_
  · intro j u hj
    rw [List.getElem?_map] at hj
    rcases hy : ys[j]? with _ | y
    · rw [hy] at hj; cases hj
    · rw [hy] at hj
      have hj' : j < ys.length := by
        rcases Nat.lt_or_ge j ys.length with h | h
        · exact h
        · rw [List.getElem?_eq_none h] at hy; cases hy
      obtain ⟨ad', e, _, hc⟩ := hri.at_ (k := j) (by omega)
      injection e with e
      subst e
      rw [hc]
      simp only [Option.map_some, Option.some.injEq] at hj
      rw [List.getD_eq_getElem?_getD, hy, ← hj]
      rfl
  · intro u hu
    obtain ⟨y, _, rfl⟩ := List.mem_map.1 hu
    rfl
  · intro v' w' hown' hg h3
    have hb : Below base w w' := (Below.refl _ _).grown hg hbase fun k hk => (hown.block k hk).1
    have hex : ∃ A' c', v' = .slice A' (n + m) c' := by
      rcases hown'.2 with ⟨hv, h0⟩ | ⟨g, cap, cur, hv, _⟩
      · exact ⟨none, 0, by rw [hv, h0]⟩
      · exact ⟨_, _, hv⟩
    obtain ⟨A', c', rfl⟩ := hex
    exact hK A' c' w' (by unfold OwnI; rw [List.map_append]; exact hown') hb hg
set_option maxRecDepth 100000 in
/-- The same, onto an empty one. -/
theorem step_append_new {ops : Array Oper} {o : Oper} {a : Act} {w : World} {K : Act → World → Prop} {Q : Exit → Act → World → Prop} {E : Prop}
    (hgd : o.guard = none) (s x : Operand) (ho : o.op = .call { callee := .builtin .append, args := #[s, x], argTypes := #[24, 24] })
    {base c m d : Nat} {A : Option Addr} {ad : Addr} {ys : List Int} (hs : a.eval s = .slice A 0 c) (hown : OwnI w base A 0 c [])
    (hx : a.eval x = .slice (some ad) m d) (hri : RI w (some ad) m ys) (hn : m ≤ 1048576) (hbase : base ≤ w.heap.size)
    (hK : ∀ A' c' w', OwnI w' base A' m c' ys → Below base w w' → w.grownBy w' (Value.slice A 0 c).ownBlock → K (a.put o.dst (.slice A' m c')) w') :
    if Region.wanted o (yielded ops a.tmps) = true then Oper.wp Tryz.prog o a w K Q else E :=
  step_append_own hgd s x ho hs hown hx hri (by omega) hbase fun A' c' w' h1 h2 h3 => by
    have e : 0 + m = m := Nat.zero_add m
    rw [e] at h1 ⊢
    exact hK A' c' w' (by simpa using h1) h2 h3
set_option maxRecDepth 100000 in
/-- An own row is kept by a store into a block of another element type. -/
theorem OwnI.other_store {w : World} {base n c g i : Nat} {A : Option Addr} {xs : List Int} {t : TypeId} {cs : Array Value} (h : OwnI w base A n c xs) (hg : Blk w g t cs) (ht : (3 : TypeId) ≠ t) (u : Value) : OwnI (w.setCell ⟨g, i, none⟩ u) base A n c xs := by
  have hne := own_blk_ne (e := 3) h hg ht
  rcases hv : (Value.slice A n c).ownBlock with _ | k
  · exact h.kept (grown_setCell w ⟨g, i, none⟩ u) (.inl hv)
  · exact h.kept (grown_setCell w ⟨g, i, none⟩ u) (.inr hne)
end Go.Proofs.YthncdjcmlpiebaaGreatDoor
namespace Go.Proofs.YthncdjcmlpiebaaGreatDoor
open Go.RowKit
set_option maxRecDepth 100000 in
theorem eql_nil (A : Option Addr) (n c n' c' : Nat) (w : World) : (binOp .eql 24 (.slice A n c) (.slice none n' c')).run Tryz.prog w = .ok (.bool A.isNone) w := Lib.run_eql_slice_nil w 24 3 A n c n' c' Tryz.underlying24
set_option maxRecDepth 100000 in
/-- 'append(v, xs...)', v the call's own and empty. -/
theorem wpList_catN {ops : Array Oper} {rest : List Oper} {o : Oper} {a : Act} {Q : Exit → Act → World → Prop} {w : World} (hgd : o.guard = none) (s x : Operand)
    (ho : o.op = .call { callee := .builtin .append, args := #[s, x], argTypes := #[24, 24] })
    {base c m d : Nat} {A : Option Addr} {ad : Addr} {ys : List Int} (hs : a.eval s = .slice A 0 c) (hown : OwnI w base A 0 c [])
    (hx : a.eval x = .slice (some ad) m d) (hri : RI w (some ad) m ys) (hn : m ≤ 1048576) (hbase : base ≤ w.heap.size)
    (h : ∀ A' c' w', OwnI w' base A' m c' ys → Below base w w' → w.grownBy w' (Value.slice A 0 c).ownBlock → wpList Tryz.prog ops Q rest (a.put o.dst (.slice A' m c')) w') : wpList Tryz.prog ops Q (o :: rest) a w :=
  wpList_plain hgd fun K hK => by
    have hw : Region.wanted o (yielded ops a.tmps) = true := by simp [Region.wanted, hgd]
    have := step_append_new (ops := ops) (K := K) (Q := Q) (E := False) hgd s x ho hs hown hx hri hn hbase fun A' c' w' h1 h2 h3 => hK _ _ (h A' c' w' h1 h2 h3)
    rwa [if_pos hw] at this
set_option maxRecDepth 100000 in
set_option maxHeartbeats 1000000 in
theorem slClone_any (bd : Addr) (m d : Nat) (xs : List Int) (w : World) (hL : RI w (some bd) m xs) (h0 : 0 < m) (hm : m ≤ 1048576) :
    Calls Tryz.prog 134 #[.slice (some bd) m d] w fun e w' => ∃ g c, e = .returned (.slice (some ⟨g, 0, none⟩) m c) ∧ OwnI w' w.heap.size (some ⟨g, 0, none⟩) m c xs ∧ Below w.heap.size w w' := by
  have hq := eql_nil (some bd) m d 0 0
  have hown0 := OwnI.made (base := w.heap.size) w (Nat.le_refl _)
  go_enter Tryz.func134, Tryz.ntmps134
  go_wp2_with (at_builtin; refine wpList_catN rfl (.tmp 5) (.tmp 6) rfl rfl hown0 rfl (hL.alloc _) hm (by simp) ?_; intro A1 c1 w1 hown1 hb1 hg1)
  go_ret
  obtain ⟨g, rfl⟩ := hown1.form h0
  exact ⟨g, c1, rfl, hown1, ((Below.refl _ w).alloc (Nat.le_refl _) _).trans hb1⟩
end Go.Proofs.YthncdjcmlpiebaaGreatDoor
namespace Go.Proofs.YthncdjcmlpiebaaGreatDoor
open Go.RowKit

set_option maxRecDepth 100000 in
theorem i64_or7 {a b : Nat} (ha : a < 128) (hb : b < 128) : bits .or .i64 (a : Int) (b : Int) = ((a ||| b : Nat) : Int) := i64_or_nat a b (by omega) (by omega)
set_option maxRecDepth 100000 in
theorem i64_and7 {a b : Nat} (ha : a < 128) (hb : b < 128) : bits .and .i64 (a : Int) (b : Int) = ((a &&& b : Nat) : Int) := i64_and_nat a b (by omega) (by omega)
set_option maxRecDepth 100000 in
theorem i64_dif7 {a b : Nat} (ha : a < 128) (hb : b < 128) : bits .andNot .i64 (a : Int) (b : Int) = ((dif a b : Nat) : Int) := i64_andNot_nat a b (by omega) (by omega)
set_option maxRecDepth 100000 in
theorem RI.list_at {w : World} {A : Option Addr} {l : List Nat} {k : Nat} (h : RI w A l.length (ints l)) (hk : k < l.length) : ∃ ad, A = some ad ∧ w.cell? (ad.add k) = some (.int .i64 (nb l k)) := h.nb_at hk
set_option maxRecDepth 100000 in
theorem nb_list {s k : Nat} (h : k < (listOf s).length) : nb (listOf s) k < 7 ∧ s.testBit (nb (listOf s) k) = true := listOf_at h
set_option maxRecDepth 100000 in
theorem nb_lt_n {n s k : Nat} (hs : s < 2 ^ n) (h : k < (listOf s).length) : nb (listOf s) k < n := bit_lt hs (nb_list h).2
set_option maxRecDepth 100000 in
set_option maxHeartbeats 800000 in
theorem implNeighbors_any (A : Option Addr) (n c s : Nat) (Q : List Nat) (w : World) (hX : RI w A n (ints Q)) (h : GOk n Q) (hs : s < 2 ^ n) :
    Calls Tryz.prog 99 #[.agg #[.int .i64 n, .slice A n c], .int .i64 s] w fun e w' => e = .returned (.int .i64 (nbrs Q s)) ∧ Below w.heap.size w w' := by
  go_enter Tryz.func99, Tryz.ntmps99
  go_wp2_with fail
  refine (implListOf_any s _ (h.n7 hs)).mono ?_
  intro e w1 hg
  obtain ⟨B, d, rfl, hown, hb1⟩ := hg.out
  clear hg
  have hw1 : Below w.heap.size w w1 := Up.then_ (by go_grown) hb1
  have hblk := (Blk.new w 29 #[.int .i64 n, .slice A n c]).up hb1
  obtain ⟨hx0, hx1⟩ := hblk.two
  have hri := hown.ri
  have hll := listOf_len s
  have hX1 := hX.up hw1
  go_wp2_with fail
  go_loop [5, 11] (fun v i => ∃ k : Nat, k ≤ (listOf s).length ∧ i = .int .i64 k ∧ v = .int .i64 (nbrL Q ((listOf s).take k))) (fun _ i => (listOf s).length - (intOf i).toNat)
  case atStart => exact ⟨0, Nat.zero_le _, rfl, rfl⟩
  case round =>
    obtain ⟨k, hk, rfl, rfl⟩ := hrel
    by_cases hlt : k < (listOf s).length
    · obtain ⟨b, rfl, hcb⟩ := hri.list_at hlt
      have hv := nb_lt_n hs hlt
      obtain ⟨a, rfl, hca⟩ := hX1.nb_at hv
      have hor := i64_or7 (h.n7 (nbrL_lt h ((listOf s).take k))) (h.nb7 (nb (listOf s) k))
      go_wp2
      go_round
      case rel => exact ⟨k + 1, by omega, by go_num, by rw [nbrL_take hlt]; rfl⟩
      case measure => simp [intOf]; omega
    · obtain rfl : k = (listOf s).length := by omega
      go_wp2
      go_ret
      exact ⟨ret_int (by rfl), hw1⟩
set_option maxRecDepth 100000 in
set_option maxHeartbeats 800000 in
theorem specAround_any (A : Option Addr) (n c s : Nat) (Q : List Nat) (w : World) (hX : RI w A n (ints Q)) (h : GOk n Q) (hs : s < 2 ^ n) :
    Calls Tryz.prog 102 #[.agg #[.int .i64 n, .slice A n c], .int .i64 s] w fun e w' => e = .returned (.int .i64 (around Q s)) ∧ Below w.heap.size w w' := by
  have hn7 := h.le
  go_enter Tryz.func102, Tryz.ntmps102
  go_wp2_with fail
  refine (specIsSet_ok (hX.up (by go_grown)) h hs).mono ?_
  rintro e w1 ⟨rfl, hb1⟩
  have hw1 : Below w.heap.size w w1 := Up.then_ (by go_grown) hb1
  obtain ⟨hc1, hf1⟩ := bcell hb1
  have hz1 := hb1.size
  try simp only [World.size_alloc] at hz1
  try simp only [World.size_setCell] at hz1
  try simp only [World.size_alloc] at hz1
  try simp only [World.size_drew] at hz1
  have hl1_0 : w.heap.size < w1.heap.size := by omega
  have hblk := (Blk.new w 29 #[.int .i64 n, .slice A n c]).up hb1
  obtain ⟨hx0, hx1⟩ := hblk.two
  have hX1 := hX.up hw1
  go_wp2_with fail
  go_loop [5, 6] (fun v i => ∃ k : Nat, k ≤ n ∧ i = .int .i64 k ∧ v = .int .i64 ((s ||| nbrL Q (listK s k) : Nat) : Int)) (fun _ i => n - (intOf i).toNat)
  case atStart => exact ⟨0, Nat.zero_le _, rfl, by rw [show nbrL Q (listK s 0) = 0 from rfl, Nat.or_zero]⟩
  case round =>
    obtain ⟨k, hk, rfl, rfl⟩ := hrel
    by_cases hlt : k < n
    · obtain ⟨a, rfl, hca⟩ := hX1.nb_at hlt
      have hbit := bit_one s k (by have := h.n7 hs; omega)
      have hor := i64_or7 (h.n7 (Nat.or_lt_two_pow hs (nbrL_lt h (listK s k)))) (h.nb7 k)
      rcases Bool.eq_false_or_eq_true (s.testBit k) with e1 | e1
      · have H1 := Lib.hid e1
        rw [e1] at hbit
        clear e1
        go_wp2
        go_round
        case rel => exact ⟨k + 1, by omega, by go_num, by rw [nbrL_yes H1.out, Nat.or_assoc]⟩
        case measure => simp [intOf]; omega
      · have H1 := Lib.hid e1
        rw [e1] at hbit
        clear e1
        go_wp2
        go_round
        case rel => exact ⟨k + 1, by omega, by go_num, by rw [nbrL_no H1.out]⟩
        case measure => simp [intOf]; omega
    · obtain rfl : k = n := by omega
      go_wp2
      go_ret
      exact ⟨ret_int (by rw [listK_full hs hn7]; rfl), hw1⟩
set_option maxRecDepth 100000 in
set_option maxHeartbeats 800000 in
theorem implClq_any (A : Option Addr) (n c s : Nat) (Q : List Nat) (w : World) (hX : RI w A n (ints Q)) (h : GOk n Q) (hs : s < 2 ^ n) :
    Calls Tryz.prog 130 #[.agg #[.int .i64 n, .slice A n c], .int .i64 s] w fun e w' => e = .returned (.bool (clq Q s)) ∧ Below w.heap.size w w' := by
  go_enter Tryz.func130, Tryz.ntmps130
  go_wp2_with fail
  refine (implListOf_any s _ (h.n7 hs)).mono ?_
  intro e w1 hg
  obtain ⟨B, d, rfl, hown, hb1⟩ := hg.out
  clear hg
  have hw1 : Below w.heap.size w w1 := Up.then_ (by go_grown) hb1
  have hblk0 := (Blk.new w 29 #[.int .i64 n, .slice A n c]).up hb1
  have hri0 := hown.ri
  have hll := listOf_len s
  go_wp2_with fail
  go_loopw [10] (fun i wr => ∃ k : Nat, k ≤ (listOf s).length ∧ i = .int .i64 k ∧ Below w1.heap.size w1 wr ∧ Hid (∀ j, j < k → clqAt Q s (nb (listOf s) j) = true)) (fun i _ => (listOf s).length - (intOf i).toNat)
  case atStart => exact ⟨0, Nat.zero_le _, rfl, Below.refl _ _, fun j h => absurd h (by omega)⟩
  case round =>
    obtain ⟨k, hk, rfl, hb, hall⟩ := hrel
    have hblk := hblk0.up hb
    have hri := hri0.up hb
    have hwr := Up.then_ hw1 hb
    obtain ⟨hx0, hx1⟩ := hblk.two
    by_cases hlt : k < (listOf s).length
    · obtain ⟨b, rfl, hcb⟩ := hri.list_at hlt
      have hv := nb_lt_n hs hlt
      have hv7 := h.le
      obtain ⟨a, rfl, hca⟩ := (hX.up hwr).nb_at hv
      have hdf := i64_dif7 (h.n7 hs) (h.nb7 (nb (listOf s) k))
      have hsh := shl_p2 (k := nb (listOf s) k) (by omega)
      rcases Bool.eq_false_or_eq_true (clqAt Q s (nb (listOf s) k)) with e1 | e1
      · have H1 := Lib.hid e1
        have hne : ((dif s (nb Q (nb (listOf s) k)) : Nat) : Int) = ((p2 (nb (listOf s) k) : Nat) : Int) := by
          rw [clqAt, beq_iff_eq] at e1
          rw [e1]; rfl
        rw [hne] at hdf
        clear e1 hne
        go_wp2_with fail
        go_quiet (fail)
        go_wp2
        go_roundw
        case rel => exact ⟨k + 1, by omega, by go_num, below_drewN hb _, fun j hj => by
          rcases Nat.lt_succ_iff_lt_or_eq.1 hj with h' | rfl
          · exact hall.out j h'
          · exact H1.out⟩
        case measure => simp [intOf]; omega
      · have Hno := Lib.hid (clq_false (Q := Q) (s := s) (v := nb (listOf s) k) (mem_listOf.2 (nb_list hlt)) e1)
        have hne : (((dif s (nb Q (nb (listOf s) k)) : Nat) : Int) != ((p2 (nb (listOf s) k) : Nat) : Int)) = true := by
          rw [clqAt, beq_eq_false_iff_ne] at e1
          rw [bne_iff_ne]
          exact fun e => e1 (Int.ofNat_inj.1 e)
        clear e1
        go_wp2_with fail
        go_quiet (fail)
        go_wp2
        go_ret
        exact ⟨ret_bool Hno.out.symm, below_drewN hwr _⟩
    · obtain rfl : k = (listOf s).length := by omega
      go_wp2
      go_ret
      exact ⟨ret_bool (clq_true hall.out).symm, hwr⟩
end Go.Proofs.YthncdjcmlpiebaaGreatDoor
