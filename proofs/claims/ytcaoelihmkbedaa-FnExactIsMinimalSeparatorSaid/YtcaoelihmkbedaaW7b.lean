/- Walks of chapter 7, second part. -/
import Derived.Test.YtcaoelihmkbedaaW7
namespace Go.Proofs.Ytcaoelihmkbedaa
open Go.RowKit

set_option maxHeartbeats 1600000 in
theorem specLargestClique_any (N : Int) (A : Option Addr) (n c : Nat) (X : List Int) (w : World) (hX : RI w A n X) (hn : n ≤ 9223372036854775807) :
    Calls Try.prog 29 #[.agg #[.int .i64 N, .slice A n c]] w fun e w' => e = .returned (.int .i64 (ofGraph N X 0 (largestOf clq))) ∧ Below w.heap.size w w' := by
  rcases isGraph_cases N X with hg | ⟨k, Q, rfl, rfl, h⟩
  · have Hg := Lib.hid hg
    have Hr := Lib.hid (ofGraph_no hg 0 (largestOf clq))
    clear hg
    go_enter Try.func29, Try.ntmps29
    go_wp2_with fail
    refine wp_loop_rounds 1 ?_
    rw [rounds_succ]
    go_wp2_with fail
    refine (specIsGraph_is (hX.up (by go_grown)) hn Hg.out).mono ?_
    rintro e w1 ⟨rfl, hb1⟩
    have hw1 : Below w.heap.size w w1 := Up.then_ (by go_grown) hb1
    obtain ⟨hc1, hf1⟩ := bcell hb1
    have hz1 := hb1.size
    try simp only [World.size_alloc] at hz1
    try simp only [World.size_setCell] at hz1
    try simp only [World.size_alloc] at hz1
    try simp only [World.size_drew] at hz1
    have hl1_0 : w.heap.size < w1.heap.size := by omega
    go_wp2
    go_ret
    exact ⟨ret_int Hr.out.symm, hw1⟩
  · obtain rfl : n = k := by rw [← hX.1, ints_len, h.len]
    have Hr := Lib.hid (ofGraph_ok h 0 (largestOf clq))
    have hn7 := h.le
    have hsh := shl_p2 (k := n) (by omega)
    have hp1 := p2_le hn7
    have hp2 := p2_pos n
    go_enter Try.func29, Try.ntmps29
    go_wp2_with fail
    go_loopw [3, 4] (fun v i wr => ∃ k : Nat, k + 1 ≤ p2 n ∧ i = .int .i64 ((k : Int) + 1) ∧ v = .int .i64 (bestK (clq Q) k) ∧ Blk wr w.heap.size 27 #[.int .i64 n, .slice A n c] ∧ Below w.heap.size w wr) (fun _ i _ => p2 n - (intOf i).toNat)
    case atStart => exact ⟨0, by omega, rfl, rfl, Blk.new _ _ _, by go_grown⟩
    case round =>
      obtain ⟨k, hk, rfl, rfl, hblk, hwr⟩ := hrel
      have hyb := hblk.two
      have hbk := bestK_le (clq Q) k
      go_wp2_with fail
      refine (specIsGraph_is (hX.up hwr) hn h.is).mono ?_
      rintro e w2 ⟨rfl, hb2⟩
      have hw2 := Up.then_ hwr hb2
      replace hblk := hblk.up hb2
      replace hyb := hblk.two
      by_cases hlt : k + 1 < p2 n
      · have hs : k + 1 < 2 ^ n := hlt
        have e1 : Hid (((k : Int) + 1) = ((k + 1 : Nat) : Int)) := (by omega : ((k : Int) + 1) = ((k + 1 : Nat) : Int))
        go_wp2_with fail
        rw [e1.out]
        refine (specCountSet_any (k + 1) _ (by omega)).mono ?_
        rintro e w3 ⟨rfl, hb3⟩
        have hw3 := Up.then_ hw2 hb3
        replace hblk := hblk.up hb3
        replace hyb := hblk.two
        go_wp2_with fail
        refine (specCountSet_any (bestK (clq Q) k) _ (by omega)).mono ?_
        rintro e w4 ⟨rfl, hb4⟩
        have hw4 := Up.then_ hw3 hb4
        replace hblk := hblk.up hb4
        replace hyb := hblk.two
        have hX4 := hX.up hw4
        by_cases hc : card (bestK (clq Q) k) < card (k + 1)
        · go_wp2_with fail
          rw [e1.out]
          refine (specIsClique_ok (s := k + 1) hX4 h hs).mono ?_
          rintro e w5 ⟨rfl, hb5⟩
          replace hblk := hblk.up hb5
          have hw5 := Up.then_ hw4 hb5
          rcases Bool.eq_false_or_eq_true (clq Q (k + 1)) with e2 | e2
          · have HB := Lib.hid (bestK_yes hc e2)
            go_wp2
            go_roundw
            case rel => exact ⟨k + 1, by omega, by go_num, by rw [HB.out]; go_num, hblk, hw5⟩
            case measure => simp [intOf]; omega
          · have HB := Lib.hid (bestK_not (k := k) e2)
            go_wp2
            go_roundw
            case rel => exact ⟨k + 1, by omega, by go_num, by rw [HB.out], hblk, hw5⟩
            case measure => simp [intOf]; omega
        · have HB := Lib.hid (bestK_few (P := clq Q) hc)
          go_wp2
          go_roundw
          case rel => exact ⟨k + 1, by omega, by go_num, by rw [HB.out], hblk, hw4⟩
          case measure => simp [intOf]; omega
      · have hkk : k = p2 n - 1 := by omega
        have Hk := Lib.hid hkk
        clear hkk
        go_wp2
        go_ret
        exact ⟨ret_int (by rw [Hr.out, largestOf, Hk.out]; rfl), hw2⟩
set_option maxHeartbeats 1600000 in
theorem specLargestIndependent_any (N : Int) (A : Option Addr) (n c : Nat) (X : List Int) (w : World) (hX : RI w A n X) (hn : n ≤ 9223372036854775807) :
    Calls Try.prog 27 #[.agg #[.int .i64 N, .slice A n c]] w fun e w' => e = .returned (.int .i64 (ofGraph N X 0 (largestOf indep))) ∧ Below w.heap.size w w' := by
  rcases isGraph_cases N X with hg | ⟨k, Q, rfl, rfl, h⟩
  · have Hg := Lib.hid hg
    have Hr := Lib.hid (ofGraph_no hg 0 (largestOf indep))
    clear hg
    go_enter Try.func27, Try.ntmps27
    go_wp2_with fail
    refine wp_loop_rounds 1 ?_
    rw [rounds_succ]
    go_wp2_with fail
    refine (specIsGraph_is (hX.up (by go_grown)) hn Hg.out).mono ?_
    rintro e w1 ⟨rfl, hb1⟩
    have hw1 : Below w.heap.size w w1 := Up.then_ (by go_grown) hb1
    obtain ⟨hc1, hf1⟩ := bcell hb1
    have hz1 := hb1.size
    try simp only [World.size_alloc] at hz1
    try simp only [World.size_setCell] at hz1
    try simp only [World.size_alloc] at hz1
    try simp only [World.size_drew] at hz1
    have hl1_0 : w.heap.size < w1.heap.size := by omega
    go_wp2
    go_ret
    exact ⟨ret_int Hr.out.symm, hw1⟩
  · obtain rfl : n = k := by rw [← hX.1, ints_len, h.len]
    have Hr := Lib.hid (ofGraph_ok h 0 (largestOf indep))
    have hn7 := h.le
    have hsh := shl_p2 (k := n) (by omega)
    have hp1 := p2_le hn7
    have hp2 := p2_pos n
    go_enter Try.func27, Try.ntmps27
    go_wp2_with fail
    go_loopw [3, 4] (fun v i wr => ∃ k : Nat, k + 1 ≤ p2 n ∧ i = .int .i64 ((k : Int) + 1) ∧ v = .int .i64 (bestK (indep Q) k) ∧ Blk wr w.heap.size 27 #[.int .i64 n, .slice A n c] ∧ Below w.heap.size w wr) (fun _ i _ => p2 n - (intOf i).toNat)
    case atStart => exact ⟨0, by omega, rfl, rfl, Blk.new _ _ _, by go_grown⟩
    case round =>
      obtain ⟨k, hk, rfl, rfl, hblk, hwr⟩ := hrel
      have hyb := hblk.two
      have hbk := bestK_le (indep Q) k
      go_wp2_with fail
      refine (specIsGraph_is (hX.up hwr) hn h.is).mono ?_
      rintro e w2 ⟨rfl, hb2⟩
      have hw2 := Up.then_ hwr hb2
      replace hblk := hblk.up hb2
      replace hyb := hblk.two
      by_cases hlt : k + 1 < p2 n
      · have hs : k + 1 < 2 ^ n := hlt
        have e1 : Hid (((k : Int) + 1) = ((k + 1 : Nat) : Int)) := (by omega : ((k : Int) + 1) = ((k + 1 : Nat) : Int))
        go_wp2_with fail
        rw [e1.out]
        refine (specCountSet_any (k + 1) _ (by omega)).mono ?_
        rintro e w3 ⟨rfl, hb3⟩
        have hw3 := Up.then_ hw2 hb3
        replace hblk := hblk.up hb3
        replace hyb := hblk.two
        go_wp2_with fail
        refine (specCountSet_any (bestK (indep Q) k) _ (by omega)).mono ?_
        rintro e w4 ⟨rfl, hb4⟩
        have hw4 := Up.then_ hw3 hb4
        replace hblk := hblk.up hb4
        replace hyb := hblk.two
        have hX4 := hX.up hw4
        by_cases hc : card (bestK (indep Q) k) < card (k + 1)
        · go_wp2_with fail
          rw [e1.out]
          refine (specIsIndependent_ok (s := k + 1) hX4 h hs).mono ?_
          rintro e w5 ⟨rfl, hb5⟩
          replace hblk := hblk.up hb5
          have hw5 := Up.then_ hw4 hb5
          rcases Bool.eq_false_or_eq_true (indep Q (k + 1)) with e2 | e2
          · have HB := Lib.hid (bestK_yes hc e2)
            go_wp2
            go_roundw
            case rel => exact ⟨k + 1, by omega, by go_num, by rw [HB.out]; go_num, hblk, hw5⟩
            case measure => simp [intOf]; omega
          · have HB := Lib.hid (bestK_not (k := k) e2)
            go_wp2
            go_roundw
            case rel => exact ⟨k + 1, by omega, by go_num, by rw [HB.out], hblk, hw5⟩
            case measure => simp [intOf]; omega
        · have HB := Lib.hid (bestK_few (P := indep Q) hc)
          go_wp2
          go_roundw
          case rel => exact ⟨k + 1, by omega, by go_num, by rw [HB.out], hblk, hw4⟩
          case measure => simp [intOf]; omega
      · have hkk : k = p2 n - 1 := by omega
        have Hk := Lib.hid hkk
        clear hkk
        go_wp2
        go_ret
        exact ⟨ret_int (by rw [Hr.out, largestOf, Hk.out]; rfl), hw2⟩
def cliqueNumber (n : Nat) (Q : List Nat) : Int := (card (bestK (clq Q) (2 ^ n - 1)) : Nat)
theorem bestK_128 {P : Nat → Bool} {n : Nat} (h7 : n ≤ 7) : bestK P (2 ^ n - 1) < 128 := by
  have h1 := bestK_le P (2 ^ n - 1)
  have h2 := pow_le7 h7
  have h3 := Nat.two_pow_pos n
  omega
theorem implCliqueNumber_any (N : Int) (A : Option Addr) (n c : Nat) (X : List Int) (w : World) (hX : RI w A n X) (hn : n ≤ 9223372036854775807) :
    Calls Try.prog 32 #[.agg #[.int .i64 N, .slice A n c]] w fun e w' => e = .returned (.int .i64 (ofGraph N X (-1) cliqueNumber)) ∧ Below w.heap.size w w' := by
  rcases isGraph_cases N X with hg | ⟨k, Q, rfl, rfl, h⟩
  · have Hg := Lib.hid hg
    have Hr := Lib.hid (ofGraph_no hg (-1) cliqueNumber)
    clear hg
    go_enter Try.func32, Try.ntmps32
    go_wp2_with fail
    refine (implIsGraph_is (hX.up (by go_grown)) hn Hg.out).mono ?_
    rintro e w1 ⟨rfl, hb1⟩
    have hw1 : Below w.heap.size w w1 := Up.then_ (by go_grown) hb1
    obtain ⟨hc1, hf1⟩ := bcell hb1
    have hz1 := hb1.size
    try simp only [World.size_alloc] at hz1
    try simp only [World.size_setCell] at hz1
    try simp only [World.size_alloc] at hz1
    try simp only [World.size_drew] at hz1
    have hl1_0 : w.heap.size < w1.heap.size := by omega
    go_wp2
    go_ret
    exact ⟨ret_int Hr.out.symm, hw1⟩
  · obtain rfl : n = k := by rw [← hX.1, ints_len, h.len]
    have Hr := Lib.hid (ofGraph_ok h (-1) cliqueNumber)
    have Hl := Lib.hid (ofGraph_ok h 0 (largestOf clq))
    go_enter Try.func32, Try.ntmps32
    go_wp2_with fail
    refine (implIsGraph_is (hX.up (by go_grown)) hn h.is).mono ?_
    rintro e w1 ⟨rfl, hb1⟩
    have hw1 : Below w.heap.size w w1 := Up.then_ (by go_grown) hb1
    obtain ⟨hc1, hf1⟩ := bcell hb1
    have hz1 := hb1.size
    try simp only [World.size_alloc] at hz1
    try simp only [World.size_setCell] at hz1
    try simp only [World.size_alloc] at hz1
    try simp only [World.size_drew] at hz1
    have hl1_0 : w.heap.size < w1.heap.size := by omega
    go_wp2_with fail
    refine (implLargestClique_any _ A n c _ _ (hX.up (by go_grown)) hn).mono ?_
    rintro e w2 ⟨rfl, hb2⟩
    have hw2 : Below w.heap.size w w2 := Up.then_ (by go_grown) hb2
    obtain ⟨hc2, hf2⟩ := bcell hb2
    have hz2 := hb2.size
    try simp only [World.size_alloc] at hz2
    try simp only [World.size_setCell] at hz2
    try simp only [World.size_alloc] at hz2
    try simp only [World.size_drew] at hz2
    have hl2_0 : w.heap.size < w2.heap.size := by omega
    go_wp2_with fail
    rw [Hl.out]
    refine (implCountSet_any (bestK (clq Q) (2 ^ n - 1)) _ (bestK_128 h.le)).mono ?_
    rintro e w3 ⟨rfl, hb3⟩
    go_wp2
    go_ret
    exact ⟨ret_int Hr.out.symm, Up.then_ hw2 hb3⟩
theorem specCliqueNumber_any (N : Int) (A : Option Addr) (n c : Nat) (X : List Int) (w : World) (hX : RI w A n X) (hn : n ≤ 9223372036854775807) :
    Calls Try.prog 31 #[.agg #[.int .i64 N, .slice A n c]] w fun e w' => e = .returned (.int .i64 (ofGraph N X (-1) cliqueNumber)) ∧ Below w.heap.size w w' := by
  rcases isGraph_cases N X with hg | ⟨k, Q, rfl, rfl, h⟩
  · have Hg := Lib.hid hg
    have Hr := Lib.hid (ofGraph_no hg (-1) cliqueNumber)
    clear hg
    go_enter Try.func31, Try.ntmps31
    go_wp2_with fail
    refine (specIsGraph_is (hX.up (by go_grown)) hn Hg.out).mono ?_
    rintro e w1 ⟨rfl, hb1⟩
    have hw1 : Below w.heap.size w w1 := Up.then_ (by go_grown) hb1
    obtain ⟨hc1, hf1⟩ := bcell hb1
    have hz1 := hb1.size
    try simp only [World.size_alloc] at hz1
    try simp only [World.size_setCell] at hz1
    try simp only [World.size_alloc] at hz1
    try simp only [World.size_drew] at hz1
    have hl1_0 : w.heap.size < w1.heap.size := by omega
    go_wp2
    go_ret
    exact ⟨ret_int Hr.out.symm, hw1⟩
  · obtain rfl : n = k := by rw [← hX.1, ints_len, h.len]
    have Hr := Lib.hid (ofGraph_ok h (-1) cliqueNumber)
    have Hl := Lib.hid (ofGraph_ok h 0 (largestOf clq))
    go_enter Try.func31, Try.ntmps31
    go_wp2_with fail
    refine (specIsGraph_is (hX.up (by go_grown)) hn h.is).mono ?_
    rintro e w1 ⟨rfl, hb1⟩
    have hw1 : Below w.heap.size w w1 := Up.then_ (by go_grown) hb1
    obtain ⟨hc1, hf1⟩ := bcell hb1
    have hz1 := hb1.size
    try simp only [World.size_alloc] at hz1
    try simp only [World.size_setCell] at hz1
    try simp only [World.size_alloc] at hz1
    try simp only [World.size_drew] at hz1
    have hl1_0 : w.heap.size < w1.heap.size := by omega
    go_wp2_with fail
    refine (specLargestClique_any _ A n c _ _ (hX.up (by go_grown)) hn).mono ?_
    rintro e w2 ⟨rfl, hb2⟩
    have hw2 : Below w.heap.size w w2 := Up.then_ (by go_grown) hb2
    obtain ⟨hc2, hf2⟩ := bcell hb2
    have hz2 := hb2.size
    try simp only [World.size_alloc] at hz2
    try simp only [World.size_setCell] at hz2
    try simp only [World.size_alloc] at hz2
    try simp only [World.size_drew] at hz2
    have hl2_0 : w.heap.size < w2.heap.size := by omega
    go_wp2_with fail
    rw [Hl.out]
    refine (specCountSet_any (bestK (clq Q) (2 ^ n - 1)) _ (bestK_128 h.le)).mono ?_
    rintro e w3 ⟨rfl, hb3⟩
    go_wp2
    go_ret
    exact ⟨ret_int Hr.out.symm, Up.then_ hw2 hb3⟩
end Go.Proofs.Ytcaoelihmkbedaa
