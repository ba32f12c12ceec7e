/- Walks of chapter 9, second part. -/
import Derived.Test.YtfodbgogeclifaaW9
namespace Go.Proofs.Ytfodbgogeclifaa
open Go.RowKit

set_option maxHeartbeats 400000 in
theorem specPointsCovered_any (A B : Option Addr) (n m ca cb : Nat) (L R : List Int) (x : Int) (w : World) (hL : RI w A n L) (hR : RI w B m R) (hn : n ≤ 1048576) (hm : m ≤ 1048576) :
    Calls Try.prog 67 #[.agg #[.slice A n ca, .slice B m cb], .int .i64 x] w fun e w' => e = .returned (.int .i64 (pointsCovered L R x)) ∧ Below w.heap.size w w' := by
  have hLL := Lib.hid hL.1
  rcases Bool.eq_false_or_eq_true (isModel L R) with hmod | hmod
  · have hMod := Lib.hid hmod
    have h7 := (isModel_spec hmod).2.1
    have hlen := (isModel_spec hmod).2.2.1
    rw [hL.1] at h7
    rw [hL.1, hR.1] at hlen
    subst hlen
    clear hmod
    go_enter Try.func67, Try.ntmps67
    go_wp2_with fail
    go_loopw [5, 6] (fun s i wr => ∃ k : Nat, k ≤ m ∧ i = .int .i64 k ∧ s = .int .i64 (pcK L R x k) ∧ Blk wr w.heap.size 24 #[.slice A m ca, .slice B m cb] ∧ Below w.heap.size w wr) (fun _ i _ => m - (intOf i).toNat)
    case atStart => exact ⟨0, Nat.zero_le _, rfl, rfl, Blk.new _ _ _, by go_grown⟩
    case round =>
      obtain ⟨k, hk, rfl, rfl, hblk, hb⟩ := hrel
      have hpl := pcK_small L R x (k := k) (by omega)
      have hpl2 := Nat.lt_of_lt_of_le (pcK_lt L R x k) (Nat.pow_le_pow_right (n := 2) (by omega) (show k ≤ 7 by omega))
      obtain ⟨hx0, hx1⟩ := hblk.two
      by_cases hlt : k < m
      · go_wp2_with fail
        refine (specIsModel_is (hL.up hb) (hR.up hb) hn hm hMod.out).mono ?_
        rintro e w1 ⟨rfl, hb1⟩
        have hw1 : Below w.heap.size w w1 := Up.then_ hb hb1
        have hblk1 := hblk.up hb1
        obtain ⟨hy0, hy1⟩ := hblk1.two
        obtain ⟨a, rfl, ha, hca⟩ := (hL.up hw1).at_ hlt
        obtain ⟨b, rfl, hb', hcb⟩ := (hR.up hw1).at_ hlt
        by_cases hok : L[k]?.getD 0 ≤ x ∧ x ≤ R[k]?.getD 0
        · have hp := pow_wrap k (by omega)
          have Hp := Lib.hid hp
          clear hp
          go_wp2
          go_roundw
          case rel => exact ⟨k + 1, by omega, by go_num, by rw [pcK_yes hok, Hp.out, ← add_wrap _ _ (by omega) (pow_le7 (by omega))], hblk1, hw1⟩
          case measure => simp [intOf]; omega
        · go_wp2
          all_goals go_roundw
          all_goals first | exact ⟨k + 1, by omega, by go_num, by rw [pcK_nay hok], hblk1, hw1⟩ | (simp [intOf]; omega)
      · obtain rfl : k = m := by omega
        go_wp2
        go_ret
        exact ⟨ret_int (by rw [pointsCovered, if_pos hMod.out, hLL.out]), hb⟩
  · have hMod := Lib.hid hmod
    clear hmod
    by_cases h0 : n = 0
    · subst h0
      go_enter Try.func67, Try.ntmps67
      go_wp2_with fail
      refine wp_loop_rounds 1 ?_
      rw [rounds_succ]
      go_wp2
      go_ret
      exact ⟨ret_int (by rw [pointsCovered, hMod.out]; rfl), by go_grown⟩
    · have hpos : 0 < n := by omega
      go_enter Try.func67, Try.ntmps67
      go_wp2_with fail
      refine wp_loop_rounds 1 ?_
      rw [rounds_succ]
      go_wp2_with fail
      refine (specIsModel_is (hL.up (by go_grown)) (hR.up (by go_grown)) hn hm hMod.out).mono ?_
      rintro e w1 ⟨rfl, hb1⟩
      have hw1 : Below w.heap.size w w1 := Up.then_ (by go_grown) hb1
      obtain ⟨hc1, hf1⟩ := bcell hb1
      have hz1 := hb1.size
      try simp only [World.size_alloc] at hz1
      try simp only [World.size_setCell] at hz1
      try simp only [World.size_alloc] at hz1
      try simp only [World.size_drew] at hz1
      have hl1_0 : w.heap.size < w1.heap.size := by omega
      go_wp2
      go_ret
      exact ⟨ret_int (by rw [pointsCovered, hMod.out]; rfl), by go_grown⟩
