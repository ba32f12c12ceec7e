/- Walks of chapter 3, second part: neighbours, cliques, independent sets. -/
import Derived.Test.YtlcmfangecbdgaaW3
namespace Go.Proofs.Ytlcmfangecbdgaa
open Go.RowKit

theorem i64_or7 {a b : Nat} (ha : a < 128) (hb : b < 128) : bits .or .i64 (a : Int) (b : Int) = ((a ||| b : Nat) : Int) := i64_or_nat a b (by omega) (by omega)
theorem i64_and7 {a b : Nat} (ha : a < 128) (hb : b < 128) : bits .and .i64 (a : Int) (b : Int) = ((a &&& b : Nat) : Int) := i64_and_nat a b (by omega) (by omega)
theorem i64_dif7 {a b : Nat} (ha : a < 128) (hb : b < 128) : bits .andNot .i64 (a : Int) (b : Int) = ((dif a b : Nat) : Int) := i64_andNot_nat a b (by omega) (by omega)
theorem RI.list_at {w : World} {A : Option Addr} {l : List Nat} {k : Nat} (h : RI w A l.length (ints l)) (hk : k < l.length) : ∃ ad, A = some ad ∧ w.cell? (ad.add k) = some (.int .i64 (nb l k)) := h.nb_at hk
theorem nb_list {s k : Nat} (h : k < (listOf s).length) : nb (listOf s) k < 7 ∧ s.testBit (nb (listOf s) k) = true := listOf_at h
theorem nb_lt_n {n s k : Nat} (hs : s < 2 ^ n) (h : k < (listOf s).length) : nb (listOf s) k < n := bit_lt hs (nb_list h).2

set_option maxHeartbeats 800000 in
theorem implNeighbors_any (A : Option Addr) (n c s : Nat) (Q : List Nat) (w : World) (hX : RI w A n (ints Q)) (h : GOk n Q) (hs : s < 2 ^ n) :
    Calls Try.prog 78 #[.agg #[.int .i64 n, .slice A n c], .int .i64 s] w fun e w' => e = .returned (.int .i64 (nbrs Q s)) ∧ Below w.heap.size w w' := by
  go_enter Try.func78, Try.ntmps78
  go_wp2_with fail
  refine (implListOf_any s _ (h.n7 hs)).mono ?_
  intro e w1 hg
  obtain ⟨B, d, rfl, hown, hb1⟩ := hg.out
  clear hg
  have hw1 : Below w.heap.size w w1 := Up.then_ (by go_grown) hb1
  have hblk := (Blk.new w 27 #[.int .i64 n, .slice A n c]).up hb1
  obtain ⟨hx0, hx1⟩ := hblk.two
  have hri := hown.ri
  have hll := listOf_len s
  have hX1 := hX.up hw1
  go_wp2_with fail
  go_loop [5, 11] (fun v i => ∃ k : Nat, k ≤ (listOf s).length ∧ i = .int .i64 k ∧ v = .int .i64 (nbrL Q ((listOf s).take k))) (fun _ i => (listOf s).length - (intOf i).toNat)
  case atStart => exact ⟨0, Nat.zero_le _, rfl, rfl⟩
  case round =>
    obtain ⟨k, hk, rfl, rfl⟩ := hrel
    by_cases hlt : k < (listOf s).length
    · obtain ⟨b, rfl, hcb⟩ := hri.list_at hlt
      have hv := nb_lt_n hs hlt
      obtain ⟨a, rfl, hca⟩ := hX1.nb_at hv
      have hor := i64_or7 (h.n7 (nbrL_lt h ((listOf s).take k))) (h.nb7 (nb (listOf s) k))
      go_wp2
      go_round
      case rel => exact ⟨k + 1, by omega, by go_num, by rw [nbrL_take hlt]; rfl⟩
      case measure => simp [intOf]; omega
    · obtain rfl : k = (listOf s).length := by omega
      go_wp2
      go_ret
      exact ⟨ret_int (by rfl), hw1⟩
set_option maxHeartbeats 800000 in
theorem specAround_any (A : Option Addr) (n c s : Nat) (Q : List Nat) (w : World) (hX : RI w A n (ints Q)) (h : GOk n Q) (hs : s < 2 ^ n) :
    Calls Try.prog 52 #[.agg #[.int .i64 n, .slice A n c], .int .i64 s] w fun e w' => e = .returned (.int .i64 (around Q s)) ∧ Below w.heap.size w w' := by
  have hn7 := h.le
  go_enter Try.func52, Try.ntmps52
  go_wp2_with fail
  refine (specIsSet_ok (hX.up (by go_grown)) h hs).mono ?_
  rintro e w1 ⟨rfl, hb1⟩
  have hw1 : Below w.heap.size w w1 := Up.then_ (by go_grown) hb1
  obtain ⟨hc1, hf1⟩ := bcell hb1
  have hz1 := hb1.size
  try simp only [World.size_alloc] at hz1
  try simp only [World.size_setCell] at hz1
  try simp only [World.size_alloc] at hz1
  try simp only [World.size_drew] at hz1
  have hl1_0 : w.heap.size < w1.heap.size := by omega
  have hblk := (Blk.new w 27 #[.int .i64 n, .slice A n c]).up hb1
  obtain ⟨hx0, hx1⟩ := hblk.two
  have hX1 := hX.up hw1
  go_wp2_with fail
  go_loop [5, 6] (fun v i => ∃ k : Nat, k ≤ n ∧ i = .int .i64 k ∧ v = .int .i64 ((s ||| nbrL Q (listK s k) : Nat) : Int)) (fun _ i => n - (intOf i).toNat)
  case atStart => exact ⟨0, Nat.zero_le _, rfl, by rw [show nbrL Q (listK s 0) = 0 from rfl, Nat.or_zero]⟩
  case round =>
    obtain ⟨k, hk, rfl, rfl⟩ := hrel
    by_cases hlt : k < n
    · obtain ⟨a, rfl, hca⟩ := hX1.nb_at hlt
      have hbit := bit_one s k (by have := h.n7 hs; omega)
      have hor := i64_or7 (h.n7 (Nat.or_lt_two_pow hs (nbrL_lt h (listK s k)))) (h.nb7 k)
      rcases Bool.eq_false_or_eq_true (s.testBit k) with e1 | e1
      · have H1 := Lib.hid e1
        rw [e1] at hbit
        clear e1
        go_wp2
        go_round
        case rel => exact ⟨k + 1, by omega, by go_num, by rw [nbrL_yes H1.out, Nat.or_assoc]⟩
        case measure => simp [intOf]; omega
      · have H1 := Lib.hid e1
        rw [e1] at hbit
        clear e1
        go_wp2
        go_round
        case rel => exact ⟨k + 1, by omega, by go_num, by rw [nbrL_no H1.out]⟩
        case measure => simp [intOf]; omega
    · obtain rfl : k = n := by omega
      go_wp2
      go_ret
      exact ⟨ret_int (by rw [listK_full hs hn7]; rfl), hw1⟩