/- Walks of chapter 3, second part: neighbours, cliques, independent sets. -/
import Derived.Test.YtfodbgogeclifaaW3
namespace Go.Proofs.Ytfodbgogeclifaa
open Go.RowKit

theorem i64_or7 {a b : Nat} (ha : a < 128) (hb : b < 128) : bits .or .i64 (a : Int) (b : Int) = ((a ||| b : Nat) : Int) := i64_or_nat a b (by omega) (by omega)
theorem i64_and7 {a b : Nat} (ha : a < 128) (hb : b < 128) : bits .and .i64 (a : Int) (b : Int) = ((a &&& b : Nat) : Int) := i64_and_nat a b (by omega) (by omega)
theorem i64_dif7 {a b : Nat} (ha : a < 128) (hb : b < 128) : bits .andNot .i64 (a : Int) (b : Int) = ((dif a b : Nat) : Int) := i64_andNot_nat a b (by omega) (by omega)
theorem RI.list_at {w : World} {A : Option Addr} {l : List Nat} {k : Nat} (h : RI w A l.length (ints l)) (hk : k < l.length) : ∃ ad, A = some ad ∧ w.cell? (ad.add k) = some (.int .i64 (nb l k)) := h.nb_at hk
theorem nb_list {s k : Nat} (h : k < (listOf s).length) : nb (listOf s) k < 7 ∧ s.testBit (nb (listOf s) k) = true := listOf_at h
theorem nb_lt_n {n s k : Nat} (hs : s < 2 ^ n) (h : k < (listOf s).length) : nb (listOf s) k < n := bit_lt hs (nb_list h).2

set_option maxHeartbeats 800000 in
theorem implClq_any (A : Option Addr) (n c s : Nat) (Q : List Nat) (w : World) (hX : RI w A n (ints Q)) (h : GOk n Q) (hs : s < 2 ^ n) :
    Calls Try.prog 112 #[.agg #[.int .i64 n, .slice A n c], .int .i64 s] w fun e w' => e = .returned (.bool (clq Q s)) ∧ Below w.heap.size w w' := by
  go_enter Try.func112, Try.ntmps112
  go_wp2_with fail
  refine (implListOf_any s _ (h.n7 hs)).mono ?_
  intro e w1 hg
  obtain ⟨B, d, rfl, hown, hb1⟩ := hg.out
  clear hg
  have hw1 : Below w.heap.size w w1 := Up.then_ (by go_grown) hb1
  have hblk0 := (Blk.new w 45 #[.int .i64 n, .slice A n c]).up hb1
  have hri0 := hown.ri
  have hll := listOf_len s
  go_wp2_with fail
  go_loopw [10] (fun i wr => ∃ k : Nat, k ≤ (listOf s).length ∧ i = .int .i64 k ∧ Below w1.heap.size w1 wr ∧ Hid (∀ j, j < k → clqAt Q s (nb (listOf s) j) = true)) (fun i _ => (listOf s).length - (intOf i).toNat)
  case atStart => exact ⟨0, Nat.zero_le _, rfl, Below.refl _ _, fun j h => absurd h (by omega)⟩
  case round =>
    obtain ⟨k, hk, rfl, hb, hall⟩ := hrel
    have hblk := hblk0.up hb
    have hri := hri0.up hb
    have hwr := Up.then_ hw1 hb
    obtain ⟨hx0, hx1⟩ := hblk.two
    by_cases hlt : k < (listOf s).length
    · obtain ⟨b, rfl, hcb⟩ := hri.list_at hlt
      have hv := nb_lt_n hs hlt
      have hv7 := h.le
      obtain ⟨a, rfl, hca⟩ := (hX.up hwr).nb_at hv
      have hdf := i64_dif7 (h.n7 hs) (h.nb7 (nb (listOf s) k))
      have hsh := shl_p2 (k := nb (listOf s) k) (by omega)
      rcases Bool.eq_false_or_eq_true (clqAt Q s (nb (listOf s) k)) with e1 | e1
      · have H1 := Lib.hid e1
        have hne : ((dif s (nb Q (nb (listOf s) k)) : Nat) : Int) = ((p2 (nb (listOf s) k) : Nat) : Int) := by
          rw [clqAt, beq_iff_eq] at e1
          rw [e1]; rfl
        rw [hne] at hdf
        clear e1 hne
        go_wp2_with fail
        go_quiet (fail)
        go_wp2
        go_roundw
        case rel => exact ⟨k + 1, by omega, by go_num, below_drewN hb _, fun j hj => by
          rcases Nat.lt_succ_iff_lt_or_eq.1 hj with h' | rfl
          · exact hall.out j h'
          · exact H1.out⟩
        case measure => simp [intOf]; omega
      · have Hno := Lib.hid (clq_false (Q := Q) (s := s) (v := nb (listOf s) k) (mem_listOf.2 (nb_list hlt)) e1)
        have hne : (((dif s (nb Q (nb (listOf s) k)) : Nat) : Int) != ((p2 (nb (listOf s) k) : Nat) : Int)) = true := by
          rw [clqAt, beq_eq_false_iff_ne] at e1
          rw [bne_iff_ne]
          exact fun e => e1 (Int.ofNat_inj.1 e)
        clear e1
        go_wp2_with fail
        go_quiet (fail)
        go_wp2
        go_ret
        exact ⟨ret_bool Hno.out.symm, below_drewN hwr _⟩
    · obtain rfl : k = (listOf s).length := by omega
      go_wp2
      go_ret
      exact ⟨ret_bool (clq_true hall.out).symm, hwr⟩