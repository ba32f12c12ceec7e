/- Walks of chapter 7: cliques, the largest sets, the maximal cliques. -/
import Derived.Test.YtfodbgogeclifaaW3b
namespace Go.Proofs.Ytfodbgogeclifaa
open Go.RowKit

theorem clq_all {n s : Nat} {Q : List Nat} (hs : s < 2 ^ n) (h : ∀ v, v < n → s.testBit v = true → clqAt Q s v = true) : clq Q s = true := by
  rw [clq_iff]
  exact fun v _ hb => h v (bit_lt hs hb) hb
theorem clq_at_no {n s v : Nat} {Q : List Nat} (h7 : n ≤ 7) (hv : v < n) (hb : s.testBit v = true) (h : clqAt Q s v = false) : clq Q s = false := clq_false (mem_listOf.2 ⟨by omega, hb⟩) h
set_option maxHeartbeats 800000 in
theorem specIsClique_ok {A : Option Addr} {n c s : Nat} {Q : List Nat} {w : World} (hX : RI w A n (ints Q)) (h : GOk n Q) (hs : s < 2 ^ n) :
    Calls Try.prog 116 #[.agg #[.int .i64 n, .slice A n c], .int .i64 s] w fun e w' => e = .returned (.bool (clq Q s)) ∧ Below w.heap.size w w' := by
  have hn7 := h.le
  have hs7 := h.n7 hs
  go_enter Try.func116, Try.ntmps116
  go_wp2_with fail
  refine (specIsSet_ok (hX.up (by go_grown)) h hs).mono ?_
  rintro e w1 ⟨rfl, hb1⟩
  have hw1 : Below w.heap.size w w1 := Up.then_ (by go_grown) hb1
  obtain ⟨hc1, hf1⟩ := bcell hb1
  have hz1 := hb1.size
  try simp only [World.size_alloc] at hz1
  try simp only [World.size_setCell] at hz1
  try simp only [World.size_alloc] at hz1
  try simp only [World.size_drew] at hz1
  have hl1_0 : w.heap.size < w1.heap.size := by omega
  have hblk0 := (Blk.new w 45 #[.int .i64 n, .slice A n c]).up hb1
  clear hc1 hf1
  go_wp2_with fail
  go_loopw [5] (fun i wr => ∃ k : Nat, k ≤ n ∧ i = .int .i64 k ∧ Below w1.heap.size w1 wr ∧ Hid (∀ j, j < k → s.testBit j = true → clqAt Q s j = true)) (fun i _ => n - (intOf i).toNat)
  case atStart => exact ⟨0, Nat.zero_le _, rfl, Below.refl _ _, fun j h => absurd h (by omega)⟩
  case round =>
    obtain ⟨k, hk, rfl, hb, hall⟩ := hrel
    have hblk := hblk0.up hb
    have hwr := Up.then_ hw1 hb
    obtain ⟨hx0, hx1⟩ := hblk.two
    by_cases hlt : k < n
    · obtain ⟨a, rfl, hca⟩ := (hX.up hwr).nb_at hlt
      have hbit := bit_one s k (by omega)
      rcases Bool.eq_false_or_eq_true (s.testBit k) with e1 | e1
      · have H1 := Lib.hid e1
        rw [e1] at hbit
        clear e1
        have hand := i64_and7 (h.nb7 k) hs7
        have hsh := shl_p2 (k := k) (by omega)
        have hle : p2 k ≤ s := (sub_bit H1.out).1
        rcases Bool.eq_false_or_eq_true (clqAt Q s k) with e2 | e2
        · have H2 := Lib.hid e2
          have hne : (((nb Q k &&& s : Nat) : Int)) = (s : Int) - (p2 k : Int) := by
            rw [clqAt_ref h H1.out, beq_iff_eq] at e2
            have : s - 2 ^ k = s - p2 k := rfl
            omega
          rw [hne] at hand
          clear e2 hne
          go_wp2_with fail
          go_quiet (fail)
          go_wp2
          go_roundw
          case rel => exact ⟨k + 1, by omega, by go_num, below_drewN hb _, fun j hj => by
            rcases Nat.lt_succ_iff_lt_or_eq.1 hj with h' | rfl
            · exact hall.out j h'
            · exact fun _ => H2.out⟩
          case measure => simp [intOf]; omega
        · have Hno := Lib.hid (clq_at_no hn7 hlt H1.out e2)
          have hne : (((nb Q k &&& s : Nat) : Int) != (s : Int) - (p2 k : Int)) = true := by
            rw [clqAt_ref h H1.out, beq_eq_false_iff_ne] at e2
            rw [bne_iff_ne]
            have : s - 2 ^ k = s - p2 k := rfl
            omega
          clear e2
          go_wp2_with fail
          go_quiet (fail)
          go_wp2
          go_ret
          exact ⟨ret_bool Hno.out.symm, below_drewN hwr _⟩
      · have H1 := Lib.hid e1
        rw [e1] at hbit
        clear e1
        go_wp2_with fail
        go_quiet (fail)
        go_wp2
        go_roundw
        case rel => exact ⟨k + 1, by omega, by go_num, below_drewN hb _, fun j hj => by
          rcases Nat.lt_succ_iff_lt_or_eq.1 hj with h' | rfl
          · exact hall.out j h'
          · exact fun hh => absurd (H1.out.symm.trans hh) Bool.false_ne_true⟩
        case measure => simp [intOf]; omega
    · obtain rfl : k = n := by omega
      go_wp2
      go_ret
      exact ⟨ret_bool (clq_all hs hall.out).symm, hwr⟩
theorem isGraph_cases (N : Int) (X : List Int) : (isGraph N X = false) ∨ ∃ (k : Nat) (Q : List Nat), N = k ∧ X = ints Q ∧ GOk k Q := by
  rcases Bool.eq_false_or_eq_true (isGraph N X) with h | h
  · exact .inr (isGraph_ok h)
  · exact .inl h
/-- A number that a graph has: of the graph's data as they are. -/
def ofGraph (N : Int) (X : List Int) (z : Int) (f : Nat → List Nat → Int) : Int := if isGraph N X then f N.toNat (X.map Int.toNat) else z
theorem nats_ints (Q : List Nat) : (ints Q).map Int.toNat = Q := by simp [ints, List.map_map, Function.comp_def]
theorem ofGraph_ok {k : Nat} {Q : List Nat} (h : GOk k Q) (z : Int) (f : Nat → List Nat → Int) : ofGraph k (ints Q) z f = f k Q := by
  rw [ofGraph, if_pos h.is, nats_ints, Int.toNat_natCast]
theorem ofGraph_no {N : Int} {X : List Int} (h : isGraph N X = false) (z : Int) (f : Nat → List Nat → Int) : ofGraph N X z f = z := by rw [ofGraph, h]; rfl
def largestOf (P : List Nat → Nat → Bool) (n : Nat) (Q : List Nat) : Int := (bestK (P Q) (2 ^ n - 1) : Nat)