/- Walks of chapter 12: umbrella orders. -/
import Derived.Test.YtfodbgogeclifaaW4
import Derived.Test.YtfodbgogeclifaaPure12
namespace Go.Proofs.Ytfodbgogeclifaa
open Go.RowKit
theorem RI.nbs {w : World} {ad : Addr} {m k : Nat} {o : List Nat} (h : RI w (some ad) m (ints o)) (hk : k < m) : w.cell? (ad.add k) = some (.int .i64 (nb o k)) := by
  obtain ⟨a, e, hc⟩ := h.nb_at hk
  injection e with e
  subst e
  exact hc
theorem add_tail (a : Addr) (i j : Nat) : a.add (i + 1 + j) = ⟨a.block, a.off + (i + 1) + j, none⟩ := by
  unfold Addr.add
  rw [if_neg (by omega)]
  congr 1
  omega
set_option maxRecDepth 100000 in
set_option maxHeartbeats 4000000 in
theorem implUmb_any (A : Option Addr) (bd : Addr) (n c m d : Nat) (Q o : List Nat) (w : World) (hX : RI w A n (ints Q)) (hL : RI w (some bd) m (ints o)) (h : GOk n Q) (ho : ∀ v ∈ o, v < n) (hmd : m ≤ d) (hm : m ≤ 1048576) (hd : d ≤ 9223372036854775807) :
    Calls Try.prog 75 #[.agg #[.int .i64 n, .slice A n c], .slice (some bd) m d] w fun e w' => e = .returned (.bool (umb Q o)) ∧ Below w.heap.size w w' := by
  have hn7 := h.le
  have HL := Lib.hid (show o.length = m by have := hL.1; rwa [ints_len] at this)
  have Ho := Lib.hid ho
  have hat : ∀ k, k < m → nb o k < n := fun k hk => Ho.out _ (nb_mem (by rw [HL.out]; exact hk))
  have Hat := Lib.hid hat
  clear ho hat
  obtain ⟨a, rfl, _, _⟩ := hX.addr h.pos
  go_enter Try.func75, Try.ntmps75
  go_wp2_with fail
  go_loopw [11] (fun i wr => ∃ k : Nat, k ≤ m ∧ i = .int .i64 k ∧ Blk wr w.heap.size 45 #[.int .i64 n, .slice (some a) n c] ∧ Below w.heap.size w wr ∧ Hid (∀ i, i < k → ∀ z, z < m → ∀ j, i < j → j < z → umbAt Q o i j z = true)) (fun i _ => m - (intOf i).toNat)
  case atStart => exact ⟨0, Nat.zero_le _, rfl, Blk.new _ _ _, by go_grown, fun j h => absurd h (by omega)⟩
  case round =>
    obtain ⟨i, hi, rfl, hblk, hb, hall⟩ := hrel
    obtain ⟨wo, rfl⟩ : ∃ wo : World, wo = wr := ⟨_, rfl⟩
    by_cases hit : i < m
    · have hvi := Hat.out i hit
      go_wp2_with fail
      go_loopw [6] (fun s wr => ∃ z : Nat, i + 2 ≤ z ∧ z ≤ m + 2 ∧ s = .int .i64 z ∧ Blk wr w.heap.size 45 #[.int .i64 n, .slice (some a) n c] ∧ Below w.heap.size w wr ∧ Hid (∀ y, y < z → y < m → ∀ j, i < j → j < y → umbAt Q o i j y = true)) (fun s _ => m + 2 - (intOf s).toNat)
      case atStart => exact ⟨i + 2, Nat.le_refl _, by omega, by go_num, hblk, hb, fun y hy _ j h1 h2 => absurd h1 (by omega)⟩
      case round =>
        clear hblk hb
        obtain ⟨z, hz1, hz2, rfl, hblk, hb, hall2⟩ := hrel
        obtain ⟨wi, rfl⟩ : ∃ wi : World, wi = wr := ⟨_, rfl⟩
        by_cases hzt : z < m
        · have hvz := Hat.out z hzt
          have hyb := hblk.two
          have hci := (hL.up hb).nbs hit
          have hcz := (hL.up hb).nbs hzt
          obtain ⟨a', ea, hcx⟩ := (hX.up hb).nb_at hvi
          injection ea with ea
          subst ea
          have hr7 := h.nb7 (nb o i)
          rcases Bool.eq_false_or_eq_true (edge Q (nb o i) (nb o z)) with e1 | e1
          · have H1 := Lib.hid (show (nb Q (nb o i)).testBit (nb o z) = true from e1)
            have HOn := Lib.hid fun j => umbAt_on (j := j) e1
            clear e1
            go_wp2_with fail
            go_quiet ((go_at_call 63; exact Calls.quiet_of_same (has_is (by omega) (by omega) H1.out)))
            have hlo : i + 1 < d := by omega
            have hlz : i + 1 ≤ z := by omega
            have hzd : z ≤ d := by omega
            go_wp2_with fail
            have hyb2 := (hblk.drewN 0)
            clear hyb2
            go_loopw [42] (fun s wr => ∃ j : Nat, j ≤ z - (i + 1) ∧ s = .int .i64 j ∧ Blk wr w.heap.size 45 #[.int .i64 n, .slice (some a) n c] ∧ Below w.heap.size w wr ∧ Hid (∀ y, y < i + 1 + j → i < y → umbAt Q o i y z = true)) (fun s _ => z - (intOf s).toNat)
            case atStart => exact ⟨0, by omega, rfl, hblk.drewN _, below_drewN hb _, fun y hy h1 => absurd h1 (by omega)⟩
            case round =>
              clear hblk hb hyb hci hcz hcx
              obtain ⟨j, hj, rfl, hblk, hb, hall3⟩ := hrel
              obtain ⟨wj, rfl⟩ : ∃ wj : World, wj = wr := ⟨_, rfl⟩
              by_cases hjt : j < z - (i + 1)
              · have hyb := hblk.two
                have hjm : i + 1 + j < m := by omega
                have hvj := Hat.out (i + 1 + j) hjm
                have hci := (hL.up hb).nbs hit
                have hcz := (hL.up hb).nbs hzt
                have hcj := (hL.up hb).nbs hjm
                rw [add_tail] at hcj
                obtain ⟨a', ea, hcx⟩ := (hX.up hb).nb_at hvi
                injection ea with ea
                subst ea
                obtain ⟨a', ea, hcy⟩ := (hX.up hb).nb_at hvz
                injection ea with ea
                subst ea
                have hz7 := h.nb7 (nb o z)
                rcases Bool.eq_false_or_eq_true (edge Q (nb o i) (nb o (i + 1 + j))) with e2 | e2
                · have H2 := Lib.hid (show (nb Q (nb o i)).testBit (nb o (i + 1 + j)) = true from e2)
                  rcases Bool.eq_false_or_eq_true (edge Q (nb o z) (nb o (i + 1 + j))) with e3 | e3
                  · have H3 := Lib.hid (show (nb Q (nb o z)).testBit (nb o (i + 1 + j)) = true from e3)
                    have HOk := Lib.hid (show umbAt Q o i (i + 1 + j) z = true by rw [HOn.out, e2, e3]; rfl)
                    clear e2 e3
                    go_wp2_with fail
                    go_quiet ((go_at_call 63; first | exact Calls.quiet_of_same (has_is (by omega) (by omega) H2.out) | exact Calls.quiet_of_same (has_is (by omega) (by omega) H3.out)))
                    go_wp2
                    go_roundw
                    case rel => exact ⟨j + 1, by omega, by go_num, hblk.drewN _, below_drewN hb _, fun y hy h1 => by
                      rcases Nat.lt_succ_iff_lt_or_eq.1 (show y < i + 1 + j + 1 by omega) with h' | rfl
                      · exact hall3.out y h' h1
                      · exact HOk.out⟩
                    case measure => simp [intOf]; omega
                  · have H3 := Lib.hid (show (nb Q (nb o z)).testBit (nb o (i + 1 + j)) = false from e3)
                    have HNo := Lib.hid (umb_false (Q := Q) (o := o) (i := i) (j := i + 1 + j) (k := z) (by omega) (by omega) (by rw [HL.out]; exact hzt) (by rw [HOn.out, e2, e3]; rfl))
                    clear e2 e3
                    go_wp2_with fail
                    go_quiet ((go_at_call 63; first | exact Calls.quiet_of_same (has_is (by omega) (by omega) H2.out) | exact Calls.quiet_of_same (has_is (by omega) (by omega) H3.out)))
                    go_wp2
                    go_ret
                    exact ⟨ret_bool HNo.out.symm, below_drewN hb _⟩
                · have H2 := Lib.hid (show (nb Q (nb o i)).testBit (nb o (i + 1 + j)) = false from e2)
                  have HNo := Lib.hid (umb_false (Q := Q) (o := o) (i := i) (j := i + 1 + j) (k := z) (by omega) (by omega) (by rw [HL.out]; exact hzt) (by rw [HOn.out, e2]; rfl))
                  clear e2
                  go_wp2_with fail
                  go_quiet ((go_at_call 63; exact Calls.quiet_of_same (has_is (by omega) (by omega) H2.out)))
                  go_wp2
                  go_ret
                  exact ⟨ret_bool HNo.out.symm, below_drewN hb _⟩
              · obtain rfl : j = z - (i + 1) := by omega
                go_wp2
                go_roundw
                case rel => exact ⟨z + 1, by omega, by omega, by go_num, hblk, hb, fun y hy hym j h1 h2 => by
                  rcases Nat.lt_succ_iff_lt_or_eq.1 hy with h' | rfl
                  · exact hall2.out y h' hym j h1 h2
                  · exact hall3.out j (by omega) h1⟩
                case measure => simp [intOf]; omega
          · have H1 := Lib.hid (show (nb Q (nb o i)).testBit (nb o z) = false from e1)
            have HOff := Lib.hid fun j => umbAt_off (j := j) e1
            clear e1
            go_wp2_with fail
            go_quiet ((go_at_call 63; exact Calls.quiet_of_same (has_is (by omega) (by omega) H1.out)))
            go_wp2
            go_roundw
            case rel => exact ⟨z + 1, by omega, by omega, by go_num, hblk.drewN _, below_drewN hb _, fun y hy hym j h1 h2 => by
              rcases Nat.lt_succ_iff_lt_or_eq.1 hy with h' | rfl
              · exact hall2.out y h' hym j h1 h2
              · exact HOff.out j⟩
            case measure => simp [intOf]; omega
        · go_wp2
          go_roundw
          case rel => exact ⟨i + 1, by omega, by go_num, hblk, hb, fun x hx y hy j h1 h2 => by
            rcases Nat.lt_succ_iff_lt_or_eq.1 hx with h' | rfl
            · exact hall.out x h' y hy j h1 h2
            · exact hall2.out y (by omega) hy j h1 h2⟩
          case measure => simp [intOf]; omega
    · obtain rfl : i = m := by omega
      go_wp2
      go_ret
      exact ⟨ret_bool (umb_true (by rw [HL.out]; exact fun x hx y hy j h1 h2 => hall.out x hx y hy j h1 h2)).symm, hb⟩
set_option maxRecDepth 100000 in
set_option maxHeartbeats 4000000 in
theorem specUmb_any (A : Option Addr) (bd : Addr) (n c m d : Nat) (Q o : List Nat) (w : World) (hX : RI w A n (ints Q)) (hL : RI w (some bd) m (ints o)) (h : GOk n Q) (ho : ∀ v ∈ o, v < n) (hm : m ≤ 1048576) :
    Calls Try.prog 73 #[.agg #[.int .i64 n, .slice A n c], .slice (some bd) m d] w fun e w' => e = .returned (.bool (umb Q o)) ∧ Below w.heap.size w w' := by
  have hn7 := h.le
  have HL := Lib.hid (show o.length = m by have := hL.1; rwa [ints_len] at this)
  have Ho := Lib.hid ho
  have hat : ∀ k, k < m → nb o k < n := fun k hk => Ho.out _ (nb_mem (by rw [HL.out]; exact hk))
  have Hat := Lib.hid hat
  clear ho hat
  go_enter Try.func73, Try.ntmps73
  go_wp2_with fail
  go_loopw [5] (fun i wr => ∃ k : Nat, k ≤ m ∧ i = .int .i64 k ∧ Blk wr w.heap.size 45 #[.int .i64 n, .slice A n c] ∧ Below w.heap.size w wr ∧ Hid (∀ i, i < k → ∀ z, z < m → ∀ j, i < j → j < z → umbAt Q o i j z = true)) (fun i _ => m - (intOf i).toNat)
  case atStart => exact ⟨0, Nat.zero_le _, rfl, Blk.new _ _ _, by go_grown, fun j h => absurd h (by omega)⟩
  case round =>
    obtain ⟨i, hi, rfl, hblk, hb, hall⟩ := hrel
    obtain ⟨wo, rfl⟩ : ∃ wo : World, wo = wr := ⟨_, rfl⟩
    by_cases hit : i < m
    · have hvi := Hat.out i hit
      go_wp2_with fail
      go_loopw [6] (fun s wr => ∃ z : Nat, i + 2 ≤ z ∧ z ≤ m + 2 ∧ s = .int .i64 z ∧ Blk wr w.heap.size 45 #[.int .i64 n, .slice A n c] ∧ Below w.heap.size w wr ∧ Hid (∀ y, y < z → y < m → ∀ j, i < j → j < y → umbAt Q o i j y = true)) (fun s _ => m + 2 - (intOf s).toNat)
      case atStart => exact ⟨i + 2, Nat.le_refl _, by omega, by go_num, hblk, hb, fun y hy _ j h1 h2 => absurd h1 (by omega)⟩
      case round =>
        clear hblk hb
        obtain ⟨z, hz1, hz2, rfl, hblk, hb, hall2⟩ := hrel
        obtain ⟨wi, rfl⟩ : ∃ wi : World, wi = wr := ⟨_, rfl⟩
        by_cases hzt : z < m
        · have hvz := Hat.out z hzt
          go_wp2_with fail
          go_loopw [7] (fun s wr => ∃ j : Nat, i + 1 ≤ j ∧ j ≤ z ∧ s = .int .i64 j ∧ Blk wr w.heap.size 45 #[.int .i64 n, .slice A n c] ∧ Below w.heap.size w wr ∧ Hid (∀ y, y < j → i < y → umbAt Q o i y z = true)) (fun s _ => z - (intOf s).toNat)
          case atStart => exact ⟨i + 1, Nat.le_refl _, by omega, by go_num, hblk, hb, fun y hy h1 => absurd h1 (by omega)⟩
          case round =>
            clear hblk hb
            obtain ⟨j, hj1, hj2, rfl, hblk, hb, hall3⟩ := hrel
            obtain ⟨wj, rfl⟩ : ∃ wj : World, wj = wr := ⟨_, rfl⟩
            by_cases hjt : j < z
            · have hvj := Hat.out j (by omega)
              have hyb := hblk.two
              have hlb := hblk.lt
              have hXj := hX.up hb
              have hLj := hL.up hb
              obtain ⟨_, eb, hbl, _⟩ := hLj.addr (show 0 < m by omega)
              injection eb with eb
              subst eb
              have hci := hLj.nbs hit
              have hjm : j < m := by omega
              have hcj := hLj.nbs hjm
              have hcz := hLj.nbs hzt
              rcases Bool.eq_false_or_eq_true (edge Q (nb o i) (nb o z)) with e1 | e1
              · have H1 := Lib.hid (show (nb Q (nb o i)).testBit (nb o z) = true from e1)
                have HOn := Lib.hid (umbAt_on (j := j) e1)
                clear e1
                rcases Bool.eq_false_or_eq_true (edge Q (nb o i) (nb o j)) with e2 | e2
                · have H2 := Lib.hid (show (nb Q (nb o i)).testBit (nb o j) = true from e2)
                  have E2 := Lib.hid e2
                  clear e2
                  rcases Bool.eq_false_or_eq_true (edge Q (nb o j) (nb o z)) with e3 | e3
                  · have H3 := Lib.hid (show (nb Q (nb o j)).testBit (nb o z) = true from e3)
                    have HOk := Lib.hid (show umbAt Q o i j z = true by rw [HOn.out, E2.out, h.edge_comm, e3]; rfl)
                    clear e3
                    go_wp2
                    have hV0 : Up wj wj.drew := (Up.refl _).drew
                    refine wp_region_calm (S := (fun w' => Up wj w' ∧ (∀ b o, b < wj.heap.size → w'.cell? ⟨b, o, none⟩ = wj.cell? ⟨b, o, none⟩) ∧ w'.cell? (bd.add i) = some (.int .i64 (nb o i)) ∧ w'.cell? (bd.add j) = some (.int .i64 (nb o j)) ∧ w'.cell? (bd.add z) = some (.int .i64 (nb o z)))) (by kernel_rfl) (by kernel_rfl) (by exact ⟨hV0, fun _ _ hb => hV0.cell hb, (hV0.cell (by first | assumption | (rw [block_of_add]; assumption))).trans (by assumption), (hV0.cell (by first | assumption | (rw [block_of_add]; assumption))).trans (by assumption), (hV0.cell (by first | assumption | (rw [block_of_add]; assumption))).trans (by assumption)⟩) ?_
                    repeat (first | (refine CalmSeq.cons undef (Calm.off (by rfl)) ?_; (try simp only [Act.put, List.setIfInBounds_toArray, List.set_cons_zero, List.set_cons_succ])) | (refine CalmSeq.cons ?_ (Calm.val (by rfl) ?_) ?_; rotate_left; (intro wC hSw; (try dsimp only at hSw); go_simp; done); (try simp only [Act.put, List.setIfInBounds_toArray, List.set_cons_zero, List.set_cons_succ])) | (refine CalmSeq.cons ?_ (Calm.val (by rfl) ?_) ?_; rotate_left; (intro wC hSw; (try dsimp only at hSw); go_simp; with_reducible rfl); (try simp only [Act.put, List.setIfInBounds_toArray, List.set_cons_zero, List.set_cons_succ])) | ((refine CalmSeq.cons ?_ (Calm.call (f := ?_) (args := ?_) (by rfl) ?_ (fun wC hSw => ?_)) ?_; rotate_left 3; (intro wC; go_simp; (refine ⟨?_, ?_⟩ <;> with_reducible rfl)); (go_at_call 76; (with_reducible refine (l2Edge_is (hXj.up hSw.1) h hvi hvz H1.out).mono ?_); rintro e wD ⟨rfl, hbD⟩; apply And.intro; (with_reducible rfl); (have hUD := Up.then_ hSw.1 hbD; exact ⟨hUD, fun _ _ hb => hUD.cell hb, (hUD.cell (by first | assumption | (rw [block_of_add]; assumption))).trans (by assumption), (hUD.cell (by first | assumption | (rw [block_of_add]; assumption))).trans (by assumption), (hUD.cell (by first | assumption | (rw [block_of_add]; assumption))).trans (by assumption)⟩))); (try simp only [Act.put, List.setIfInBounds_toArray, List.set_cons_zero, List.set_cons_succ])) | ((refine CalmSeq.cons ?_ (Calm.call (f := ?_) (args := ?_) (by rfl) ?_ (fun wC hSw => ?_)) ?_; rotate_left 3; (intro wC; go_simp; (refine ⟨?_, ?_⟩ <;> with_reducible rfl)); (go_at_call 76; (with_reducible refine (l2Edge_is (hXj.up hSw.1) h hvi hvj H2.out).mono ?_); rintro e wD ⟨rfl, hbD⟩; apply And.intro; (with_reducible rfl); (have hUD := Up.then_ hSw.1 hbD; exact ⟨hUD, fun _ _ hb => hUD.cell hb, (hUD.cell (by first | assumption | (rw [block_of_add]; assumption))).trans (by assumption), (hUD.cell (by first | assumption | (rw [block_of_add]; assumption))).trans (by assumption), (hUD.cell (by first | assumption | (rw [block_of_add]; assumption))).trans (by assumption)⟩))); (try simp only [Act.put, List.setIfInBounds_toArray, List.set_cons_zero, List.set_cons_succ])) | ((refine CalmSeq.cons ?_ (Calm.call (f := ?_) (args := ?_) (by rfl) ?_ (fun wC hSw => ?_)) ?_; rotate_left 3; (intro wC; go_simp; (refine ⟨?_, ?_⟩ <;> with_reducible rfl)); (go_at_call 76; (with_reducible refine (l2Edge_is (hXj.up hSw.1) h hvj hvz H3.out).mono ?_); rintro e wD ⟨rfl, hbD⟩; apply And.intro; (with_reducible rfl); (have hUD := Up.then_ hSw.1 hbD; exact ⟨hUD, fun _ _ hb => hUD.cell hb, (hUD.cell (by first | assumption | (rw [block_of_add]; assumption))).trans (by assumption), (hUD.cell (by first | assumption | (rw [block_of_add]; assumption))).trans (by assumption), (hUD.cell (by first | assumption | (rw [block_of_add]; assumption))).trans (by assumption)⟩))); (try simp only [Act.put, List.setIfInBounds_toArray, List.set_cons_zero, List.set_cons_succ])))
                    intro w1 hS1
                    have hU1 : Up wj w1 := hS1.1
                    clear hS1 hV0
                    go_wp2
                    go_roundw
                    case rel => exact ⟨j + 1, by omega, by omega, by go_num, hblk.up hU1, Up.then_ hb hU1, fun y hy h1 => by
                      rcases Nat.lt_succ_iff_lt_or_eq.1 hy with h' | rfl
                      · exact hall3.out y h' h1
                      · exact HOk.out⟩
                    case measure => simp [intOf]; omega
                  · have H3 := Lib.hid (show (nb Q (nb o j)).testBit (nb o z) = false from e3)
                    have HNo := Lib.hid (umb_false (Q := Q) (o := o) (i := i) (j := j) (k := z) (by omega) hjt (by rw [HL.out]; exact hzt) (by rw [HOn.out, E2.out, h.edge_comm, e3]; rfl))
                    clear e3
                    go_wp2
                    have hV0 : Up wj wj.drew := (Up.refl _).drew
                    refine wp_region_calm (S := (fun w' => Up wj w' ∧ (∀ b o, b < wj.heap.size → w'.cell? ⟨b, o, none⟩ = wj.cell? ⟨b, o, none⟩) ∧ w'.cell? (bd.add i) = some (.int .i64 (nb o i)) ∧ w'.cell? (bd.add j) = some (.int .i64 (nb o j)) ∧ w'.cell? (bd.add z) = some (.int .i64 (nb o z)))) (by kernel_rfl) (by kernel_rfl) (by exact ⟨hV0, fun _ _ hb => hV0.cell hb, (hV0.cell (by first | assumption | (rw [block_of_add]; assumption))).trans (by assumption), (hV0.cell (by first | assumption | (rw [block_of_add]; assumption))).trans (by assumption), (hV0.cell (by first | assumption | (rw [block_of_add]; assumption))).trans (by assumption)⟩) ?_
                    repeat (first | (refine CalmSeq.cons undef (Calm.off (by rfl)) ?_; (try simp only [Act.put, List.setIfInBounds_toArray, List.set_cons_zero, List.set_cons_succ])) | (refine CalmSeq.cons ?_ (Calm.val (by rfl) ?_) ?_; rotate_left; (intro wC hSw; (try dsimp only at hSw); go_simp; done); (try simp only [Act.put, List.setIfInBounds_toArray, List.set_cons_zero, List.set_cons_succ])) | (refine CalmSeq.cons ?_ (Calm.val (by rfl) ?_) ?_; rotate_left; (intro wC hSw; (try dsimp only at hSw); go_simp; with_reducible rfl); (try simp only [Act.put, List.setIfInBounds_toArray, List.set_cons_zero, List.set_cons_succ])) | ((refine CalmSeq.cons ?_ (Calm.call (f := ?_) (args := ?_) (by rfl) ?_ (fun wC hSw => ?_)) ?_; rotate_left 3; (intro wC; go_simp; (refine ⟨?_, ?_⟩ <;> with_reducible rfl)); (go_at_call 76; (with_reducible refine (l2Edge_is (hXj.up hSw.1) h hvi hvz H1.out).mono ?_); rintro e wD ⟨rfl, hbD⟩; apply And.intro; (with_reducible rfl); (have hUD := Up.then_ hSw.1 hbD; exact ⟨hUD, fun _ _ hb => hUD.cell hb, (hUD.cell (by first | assumption | (rw [block_of_add]; assumption))).trans (by assumption), (hUD.cell (by first | assumption | (rw [block_of_add]; assumption))).trans (by assumption), (hUD.cell (by first | assumption | (rw [block_of_add]; assumption))).trans (by assumption)⟩))); (try simp only [Act.put, List.setIfInBounds_toArray, List.set_cons_zero, List.set_cons_succ])) | ((refine CalmSeq.cons ?_ (Calm.call (f := ?_) (args := ?_) (by rfl) ?_ (fun wC hSw => ?_)) ?_; rotate_left 3; (intro wC; go_simp; (refine ⟨?_, ?_⟩ <;> with_reducible rfl)); (go_at_call 76; (with_reducible refine (l2Edge_is (hXj.up hSw.1) h hvi hvj H2.out).mono ?_); rintro e wD ⟨rfl, hbD⟩; apply And.intro; (with_reducible rfl); (have hUD := Up.then_ hSw.1 hbD; exact ⟨hUD, fun _ _ hb => hUD.cell hb, (hUD.cell (by first | assumption | (rw [block_of_add]; assumption))).trans (by assumption), (hUD.cell (by first | assumption | (rw [block_of_add]; assumption))).trans (by assumption), (hUD.cell (by first | assumption | (rw [block_of_add]; assumption))).trans (by assumption)⟩))); (try simp only [Act.put, List.setIfInBounds_toArray, List.set_cons_zero, List.set_cons_succ])) | ((refine CalmSeq.cons ?_ (Calm.call (f := ?_) (args := ?_) (by rfl) ?_ (fun wC hSw => ?_)) ?_; rotate_left 3; (intro wC; go_simp; (refine ⟨?_, ?_⟩ <;> with_reducible rfl)); (go_at_call 76; (with_reducible refine (l2Edge_is (hXj.up hSw.1) h hvj hvz H3.out).mono ?_); rintro e wD ⟨rfl, hbD⟩; apply And.intro; (with_reducible rfl); (have hUD := Up.then_ hSw.1 hbD; exact ⟨hUD, fun _ _ hb => hUD.cell hb, (hUD.cell (by first | assumption | (rw [block_of_add]; assumption))).trans (by assumption), (hUD.cell (by first | assumption | (rw [block_of_add]; assumption))).trans (by assumption), (hUD.cell (by first | assumption | (rw [block_of_add]; assumption))).trans (by assumption)⟩))); (try simp only [Act.put, List.setIfInBounds_toArray, List.set_cons_zero, List.set_cons_succ])))
                    intro w1 hS1
                    have hU1 : Up wj w1 := hS1.1
                    clear hS1 hV0
                    go_wp2
                    go_ret
                    exact ⟨ret_bool HNo.out.symm, Up.then_ hb hU1⟩
                · have H2 := Lib.hid (show (nb Q (nb o i)).testBit (nb o j) = false from e2)
                  have HNo := Lib.hid (umb_false (Q := Q) (o := o) (i := i) (j := j) (k := z) (by omega) hjt (by rw [HL.out]; exact hzt) (by rw [HOn.out, e2]; rfl))
                  clear e2
                  go_wp2
                  have hV0 : Up wj wj.drew := (Up.refl _).drew
                  refine wp_region_calm (S := (fun w' => Up wj w' ∧ (∀ b o, b < wj.heap.size → w'.cell? ⟨b, o, none⟩ = wj.cell? ⟨b, o, none⟩) ∧ w'.cell? (bd.add i) = some (.int .i64 (nb o i)) ∧ w'.cell? (bd.add j) = some (.int .i64 (nb o j)) ∧ w'.cell? (bd.add z) = some (.int .i64 (nb o z)))) (by kernel_rfl) (by kernel_rfl) (by exact ⟨hV0, fun _ _ hb => hV0.cell hb, (hV0.cell (by first | assumption | (rw [block_of_add]; assumption))).trans (by assumption), (hV0.cell (by first | assumption | (rw [block_of_add]; assumption))).trans (by assumption), (hV0.cell (by first | assumption | (rw [block_of_add]; assumption))).trans (by assumption)⟩) ?_
                  repeat (first | (refine CalmSeq.cons undef (Calm.off (by rfl)) ?_; (try simp only [Act.put, List.setIfInBounds_toArray, List.set_cons_zero, List.set_cons_succ])) | (refine CalmSeq.cons ?_ (Calm.val (by rfl) ?_) ?_; rotate_left; (intro wC hSw; (try dsimp only at hSw); go_simp; done); (try simp only [Act.put, List.setIfInBounds_toArray, List.set_cons_zero, List.set_cons_succ])) | (refine CalmSeq.cons ?_ (Calm.val (by rfl) ?_) ?_; rotate_left; (intro wC hSw; (try dsimp only at hSw); go_simp; with_reducible rfl); (try simp only [Act.put, List.setIfInBounds_toArray, List.set_cons_zero, List.set_cons_succ])) | ((refine CalmSeq.cons ?_ (Calm.call (f := ?_) (args := ?_) (by rfl) ?_ (fun wC hSw => ?_)) ?_; rotate_left 3; (intro wC; go_simp; (refine ⟨?_, ?_⟩ <;> with_reducible rfl)); (go_at_call 76; (with_reducible refine (l2Edge_is (hXj.up hSw.1) h hvi hvz H1.out).mono ?_); rintro e wD ⟨rfl, hbD⟩; apply And.intro; (with_reducible rfl); (have hUD := Up.then_ hSw.1 hbD; exact ⟨hUD, fun _ _ hb => hUD.cell hb, (hUD.cell (by first | assumption | (rw [block_of_add]; assumption))).trans (by assumption), (hUD.cell (by first | assumption | (rw [block_of_add]; assumption))).trans (by assumption), (hUD.cell (by first | assumption | (rw [block_of_add]; assumption))).trans (by assumption)⟩))); (try simp only [Act.put, List.setIfInBounds_toArray, List.set_cons_zero, List.set_cons_succ])) | ((refine CalmSeq.cons ?_ (Calm.call (f := ?_) (args := ?_) (by rfl) ?_ (fun wC hSw => ?_)) ?_; rotate_left 3; (intro wC; go_simp; (refine ⟨?_, ?_⟩ <;> with_reducible rfl)); (go_at_call 76; (with_reducible refine (l2Edge_is (hXj.up hSw.1) h hvi hvj H2.out).mono ?_); rintro e wD ⟨rfl, hbD⟩; apply And.intro; (with_reducible rfl); (have hUD := Up.then_ hSw.1 hbD; exact ⟨hUD, fun _ _ hb => hUD.cell hb, (hUD.cell (by first | assumption | (rw [block_of_add]; assumption))).trans (by assumption), (hUD.cell (by first | assumption | (rw [block_of_add]; assumption))).trans (by assumption), (hUD.cell (by first | assumption | (rw [block_of_add]; assumption))).trans (by assumption)⟩))); (try simp only [Act.put, List.setIfInBounds_toArray, List.set_cons_zero, List.set_cons_succ])))
                  intro w1 hS1
                  have hU1 : Up wj w1 := hS1.1
                  clear hS1 hV0
                  go_wp2
                  go_ret
                  exact ⟨ret_bool HNo.out.symm, Up.then_ hb hU1⟩
              · have H1 := Lib.hid (show (nb Q (nb o i)).testBit (nb o z) = false from e1)
                have HOk := Lib.hid (umbAt_off (j := j) e1)
                clear e1
                go_wp2
                have hV0 : Up wj wj.drew := (Up.refl _).drew
                refine wp_region_calm (S := (fun w' => Up wj w' ∧ (∀ b o, b < wj.heap.size → w'.cell? ⟨b, o, none⟩ = wj.cell? ⟨b, o, none⟩) ∧ w'.cell? (bd.add i) = some (.int .i64 (nb o i)) ∧ w'.cell? (bd.add z) = some (.int .i64 (nb o z)))) (by kernel_rfl) (by kernel_rfl) (by exact ⟨hV0, fun _ _ hb => hV0.cell hb, (hV0.cell (by first | assumption | (rw [block_of_add]; assumption))).trans (by assumption), (hV0.cell (by first | assumption | (rw [block_of_add]; assumption))).trans (by assumption)⟩) ?_
                repeat (first | (refine CalmSeq.cons undef (Calm.off (by rfl)) ?_; (try simp only [Act.put, List.setIfInBounds_toArray, List.set_cons_zero, List.set_cons_succ])) | (refine CalmSeq.cons ?_ (Calm.val (by rfl) ?_) ?_; rotate_left; (intro wC hSw; (try dsimp only at hSw); go_simp; done); (try simp only [Act.put, List.setIfInBounds_toArray, List.set_cons_zero, List.set_cons_succ])) | (refine CalmSeq.cons ?_ (Calm.val (by rfl) ?_) ?_; rotate_left; (intro wC hSw; (try dsimp only at hSw); go_simp; with_reducible rfl); (try simp only [Act.put, List.setIfInBounds_toArray, List.set_cons_zero, List.set_cons_succ])) | ((refine CalmSeq.cons ?_ (Calm.call (f := ?_) (args := ?_) (by rfl) ?_ (fun wC hSw => ?_)) ?_; rotate_left 3; (intro wC; go_simp; (refine ⟨?_, ?_⟩ <;> with_reducible rfl)); (go_at_call 76; (with_reducible refine (l2Edge_is (hXj.up hSw.1) h hvi hvz H1.out).mono ?_); rintro e wD ⟨rfl, hbD⟩; apply And.intro; (with_reducible rfl); (have hUD := Up.then_ hSw.1 hbD; exact ⟨hUD, fun _ _ hb => hUD.cell hb, (hUD.cell (by first | assumption | (rw [block_of_add]; assumption))).trans (by assumption), (hUD.cell (by first | assumption | (rw [block_of_add]; assumption))).trans (by assumption)⟩))); (try simp only [Act.put, List.setIfInBounds_toArray, List.set_cons_zero, List.set_cons_succ])))
                intro w1 hS1
                have hU1 : Up wj w1 := hS1.1
                clear hS1 hV0
                go_wp2
                go_roundw
                case rel => exact ⟨j + 1, by omega, by omega, by go_num, hblk.up hU1, Up.then_ hb hU1, fun y hy h1 => by
                  rcases Nat.lt_succ_iff_lt_or_eq.1 hy with h' | rfl
                  · exact hall3.out y h' h1
                  · exact HOk.out⟩
                case measure => simp [intOf]; omega
            · obtain rfl : j = z := by omega
              go_wp2
              go_roundw
              case rel => exact ⟨j + 1, by omega, by omega, by go_num, hblk, hb, fun y hy hym x h1 h2 => by
                rcases Nat.lt_succ_iff_lt_or_eq.1 hy with h' | rfl
                · exact hall2.out y h' hym x h1 h2
                · exact hall3.out x h2 h1⟩
              case measure => simp [intOf]; omega
        · go_wp2
          go_roundw
          case rel => exact ⟨i + 1, by omega, by go_num, hblk, hb, fun x hx y hy j h1 h2 => by
            rcases Nat.lt_succ_iff_lt_or_eq.1 hx with h' | rfl
            · exact hall.out x h' y hy j h1 h2
            · exact hall2.out y (by omega) hy j h1 h2⟩
          case measure => simp [intOf]; omega
    · obtain rfl : i = m := by omega
      go_wp2
      go_ret
      exact ⟨ret_bool (umb_true (by rw [HL.out]; exact fun x hx y hy j h1 h2 => hall.out x hx y hy j h1 h2)).symm, hb⟩
set_option maxHeartbeats 1000000 in
theorem implIsUmbrella_any (N : Int) (A B : Option Addr) (n c m d : Nat) (X l : List Int) (w : World) (hX : RI w A n X) (hL : RI w B m l) (hn : n ≤ 9223372036854775807) (hm : m ≤ 9223372036854775807) (_hmd : m ≤ d) (_hd : d ≤ 1048576) :
    Calls Try.prog 33 #[.agg #[.int .i64 N, .slice A n c], .slice B m d] w fun e w' => e = .returned (.bool (isUmb N X l)) ∧ Below w.heap.size w w' := by
  rcases isOrder_cases N X l with hg | ⟨hg, k, Q, o, rfl, rfl, rfl, h, ho, hol⟩
  · have HR := Lib.hid (isUmb_no hg)
    have H1 := Lib.hid hg
    clear hg
    go_enter Try.func33, Try.ntmps33
    go_wp2_with fail
    refine (implIsOrder_is (hX.up (by go_grown)) (hL.up (by go_grown)) hn hm _hmd H1.out).mono ?_
    rintro e w1 ⟨rfl, hb1⟩
    have hU1 : Up w w1 := Up.then_ (by go_grown) hb1
    go_wp2
    go_ret
    exact ⟨ret_bool HR.out.symm, hU1⟩
  · have HR := Lib.hid (isUmb_ok hg)
    have H1 := Lib.hid hg
    have e1 : n = k := by have := hX.1; rw [ints_len, h.len] at this; exact this.symm
    have e2 : m = k := by have := hL.1; rw [ints_len, hol] at this; exact this.symm
    subst e1 e2
    obtain ⟨a, rfl, _, _⟩ := hX.addr h.pos
    obtain ⟨b, rfl, _, _⟩ := hL.addr h.pos
    have hn7 := h.le
    clear hg
    go_enter Try.func33, Try.ntmps33
    go_wp2_with fail
    refine (implIsOrder_is (hX.up (by go_grown)) (hL.up (by go_grown)) hn hm _hmd H1.out).mono ?_
    rintro e w1 ⟨rfl, hb1⟩
    have hU1 : Up w w1 := Up.then_ (by go_grown) hb1
    replace hX := hX.up hU1
    replace hL := hL.up hU1
    have hblk := (Blk.new w 45 #[.int .i64 m, .slice (some a) m c]).up hb1
    have hyb := hblk.two
    have hlb := hblk.lt
    go_wp2_with fail
    refine (implUmb_any (some a) b m c m d Q o _ hX hL h ho.1 _hmd (by omega) (by omega)).mono ?_
    rintro e w2 ⟨rfl, hb2⟩
    have hU2 : Up w1 w2 := Up.then_ (by go_grown) hb2
    replace hX := hX.up hU2
    replace hL := hL.up hU2
    have hw2 := Up.then_ hU1 hU2
    go_wp2
    go_ret
    exact ⟨ret_bool HR.out.symm, hw2⟩
set_option maxHeartbeats 1000000 in
theorem specIsUmbrella_any (N : Int) (A B : Option Addr) (n c m d : Nat) (X l : List Int) (w : World) (hX : RI w A n X) (hL : RI w B m l) (hn : n ≤ 9223372036854775807) (hm : m ≤ 9223372036854775807) (_hmd : m ≤ d) (_hd : d ≤ 1048576) :
    Calls Try.prog 31 #[.agg #[.int .i64 N, .slice A n c], .slice B m d] w fun e w' => e = .returned (.bool (isUmb N X l)) ∧ Below w.heap.size w w' := by
  rcases isOrder_cases N X l with hg | ⟨hg, k, Q, o, rfl, rfl, rfl, h, ho, hol⟩
  · have HR := Lib.hid (isUmb_no hg)
    have H1 := Lib.hid hg
    clear hg
    go_enter Try.func31, Try.ntmps31
    go_wp2_with fail
    refine (specIsOrder_is (hX.up (by go_grown)) (hL.up (by go_grown)) hn hm H1.out).mono ?_
    rintro e w1 ⟨rfl, hb1⟩
    have hU1 : Up w w1 := Up.then_ (by go_grown) hb1
    go_wp2
    go_ret
    exact ⟨ret_bool HR.out.symm, hU1⟩
  · have HR := Lib.hid (isUmb_ok hg)
    have H1 := Lib.hid hg
    have e1 : n = k := by have := hX.1; rw [ints_len, h.len] at this; exact this.symm
    have e2 : m = k := by have := hL.1; rw [ints_len, hol] at this; exact this.symm
    subst e1 e2
    obtain ⟨a, rfl, _, _⟩ := hX.addr h.pos
    obtain ⟨b, rfl, _, _⟩ := hL.addr h.pos
    have hn7 := h.le
    clear hg
    go_enter Try.func31, Try.ntmps31
    go_wp2_with fail
    refine (specIsOrder_is (hX.up (by go_grown)) (hL.up (by go_grown)) hn hm H1.out).mono ?_
    rintro e w1 ⟨rfl, hb1⟩
    have hU1 : Up w w1 := Up.then_ (by go_grown) hb1
    replace hX := hX.up hU1
    replace hL := hL.up hU1
    have hblk := (Blk.new w 45 #[.int .i64 m, .slice (some a) m c]).up hb1
    have hyb := hblk.two
    have hlb := hblk.lt
    go_wp2_with fail
    refine (specUmb_any (some a) b m c m d Q o _ hX hL h ho.1 (by omega)).mono ?_
    rintro e w2 ⟨rfl, hb2⟩
    have hU2 : Up w1 w2 := Up.then_ (by go_grown) hb2
    replace hX := hX.up hU2
    replace hL := hL.up hU2
    have hw2 := Up.then_ hU1 hU2
    go_wp2
    go_ret
    exact ⟨ret_bool HR.out.symm, hw2⟩
end Go.Proofs.Ytfodbgogeclifaa
