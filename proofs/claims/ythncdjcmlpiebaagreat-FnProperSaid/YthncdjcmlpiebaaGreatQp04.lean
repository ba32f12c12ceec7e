/- Walks of chapter 7: cliques, the largest sets, the maximal cliques. Walks of chapter 7, second part. Walks of chapter 7: colorings; an edge read by the reference. Walks of chapter 7: the maximal cliques. Walks of chapter 7: the reference's maximal cliques. -/
import Derived.Test.YthncdjcmlpiebaaGreatQp03
namespace Go.Proofs.YthncdjcmlpiebaaGreat
open Go.RowKit

set_option maxRecDepth 100000 in
theorem clq_all {n s : Nat} {Q : List Nat} (hs : s < 2 ^ n) (h : ∀ v, v < n → s.testBit v = true → clqAt Q s v = true) : clq Q s = true := by
  rw [clq_iff]
  exact fun v _ hb => h v (bit_lt hs hb) hb
set_option maxRecDepth 100000 in
theorem clq_at_no {n s v : Nat} {Q : List Nat} (h7 : n ≤ 7) (hv : v < n) (hb : s.testBit v = true) (h : clqAt Q s v = false) : clq Q s = false := clq_false (mem_listOf.2 ⟨by omega, hb⟩) h
set_option maxRecDepth 100000 in
set_option maxHeartbeats 800000 in
theorem specIsClique_ok {A : Option Addr} {n c s : Nat} {Q : List Nat} {w : World} (hX : RI w A n (ints Q)) (h : GOk n Q) (hs : s < 2 ^ n) :
    Calls Tryz.prog 137 #[.agg #[.int .i64 n, .slice A n c], .int .i64 s] w fun e w' => e = .returned (.bool (clq Q s)) ∧ Below w.heap.size w w' := by
  have hn7 := h.le
  have hs7 := h.n7 hs
  go_enter Tryz.func137, Tryz.ntmps137
  go_wp2_with fail
  refine (specIsSet_ok (hX.up (by go_grown)) h hs).mono ?_
  rintro e w1 ⟨rfl, hb1⟩
  have hw1 : Below w.heap.size w w1 := Up.then_ (by go_grown) hb1
  obtain ⟨hc1, hf1⟩ := bcell hb1
  have hz1 := hb1.size
  try simp only [World.size_alloc] at hz1
  try simp only [World.size_setCell] at hz1
  try simp only [World.size_alloc] at hz1
  try simp only [World.size_drew] at hz1
  have hl1_0 : w.heap.size < w1.heap.size := by omega
  have hblk0 := (Blk.new w 26 #[.int .i64 n, .slice A n c]).up hb1
  clear hc1 hf1
  go_wp2_with fail
  go_loopw [5] (fun i wr => ∃ k : Nat, k ≤ n ∧ i = .int .i64 k ∧ Below w1.heap.size w1 wr ∧ Hid (∀ j, j < k → s.testBit j = true → clqAt Q s j = true)) (fun i _ => n - (intOf i).toNat)
  case atStart => exact ⟨0, Nat.zero_le _, rfl, Below.refl _ _, fun j h => absurd h (by omega)⟩
  case round =>
    obtain ⟨k, hk, rfl, hb, hall⟩ := hrel
    have hblk := hblk0.up hb
    have hwr := Up.then_ hw1 hb
    obtain ⟨hx0, hx1⟩ := hblk.two
    by_cases hlt : k < n
    · obtain ⟨a, rfl, hca⟩ := (hX.up hwr).nb_at hlt
      have hbit := bit_one s k (by omega)
      rcases Bool.eq_false_or_eq_true (s.testBit k) with e1 | e1
      · have H1 := Lib.hid e1
        rw [e1] at hbit
        clear e1
        have hand := i64_and7 (h.nb7 k) hs7
        have hsh := shl_p2 (k := k) (by omega)
        have hle : p2 k ≤ s := (sub_bit H1.out).1
        rcases Bool.eq_false_or_eq_true (clqAt Q s k) with e2 | e2
        · have H2 := Lib.hid e2
          have hne : (((nb Q k &&& s : Nat) : Int)) = (s : Int) - (p2 k : Int) := by
            rw [clqAt_ref h H1.out, beq_iff_eq] at e2
            have : s - 2 ^ k = s - p2 k := rfl
            omega
          rw [hne] at hand
          clear e2 hne
          go_wp2_with fail
          go_quiet (fail)
          go_wp2
          go_roundw
          case rel => exact ⟨k + 1, by omega, by go_num, below_drewN hb _, fun j hj => by
            rcases Nat.lt_succ_iff_lt_or_eq.1 hj with h' | rfl
            · exact hall.out j h'
            · exact fun _ => H2.out⟩
          case measure => simp [intOf]; omega
        · have Hno := Lib.hid (clq_at_no hn7 hlt H1.out e2)
          have hne : (((nb Q k &&& s : Nat) : Int) != (s : Int) - (p2 k : Int)) = true := by
            rw [clqAt_ref h H1.out, beq_eq_false_iff_ne] at e2
            rw [bne_iff_ne]
            have : s - 2 ^ k = s - p2 k := rfl
            omega
          clear e2
          go_wp2_with fail
          go_quiet (fail)
          go_wp2
          go_ret
          exact ⟨ret_bool Hno.out.symm, below_drewN hwr _⟩
      · have H1 := Lib.hid e1
        rw [e1] at hbit
        clear e1
        go_wp2_with fail
        go_quiet (fail)
        go_wp2
        go_roundw
        case rel => exact ⟨k + 1, by omega, by go_num, below_drewN hb _, fun j hj => by
          rcases Nat.lt_succ_iff_lt_or_eq.1 hj with h' | rfl
          · exact hall.out j h'
          · exact fun hh => absurd (H1.out.symm.trans hh) Bool.false_ne_true⟩
        case measure => simp [intOf]; omega
    · obtain rfl : k = n := by omega
      go_wp2
      go_ret
      exact ⟨ret_bool (clq_all hs hall.out).symm, hwr⟩
set_option maxRecDepth 100000 in
theorem isGraph_cases (N : Int) (X : List Int) : (isGraph N X = false) ∨ ∃ (k : Nat) (Q : List Nat), N = k ∧ X = ints Q ∧ GOk k Q := by
  rcases Bool.eq_false_or_eq_true (isGraph N X) with h | h
  · exact .inr (isGraph_ok h)
  · exact .inl h
/-- A number that a graph has: of the graph's data as they are. -/
def ofGraph (N : Int) (X : List Int) (z : Int) (f : Nat → List Nat → Int) : Int := if isGraph N X then f N.toNat (X.map Int.toNat) else z
set_option maxRecDepth 100000 in
theorem nats_ints (Q : List Nat) : (ints Q).map Int.toNat = Q := by simp [ints, List.map_map, Function.comp_def]
set_option maxRecDepth 100000 in
theorem ofGraph_ok {k : Nat} {Q : List Nat} (h : GOk k Q) (z : Int) (f : Nat → List Nat → Int) : ofGraph k (ints Q) z f = f k Q := by
  rw [ofGraph, if_pos h.is, nats_ints, Int.toNat_natCast]
set_option maxRecDepth 100000 in
theorem ofGraph_no {N : Int} {X : List Int} (h : isGraph N X = false) (z : Int) (f : Nat → List Nat → Int) : ofGraph N X z f = z := by rw [ofGraph, h]; rfl
def largestOf (P : List Nat → Nat → Bool) (n : Nat) (Q : List Nat) : Int := (bestK (P Q) (2 ^ n - 1) : Nat)
end Go.Proofs.YthncdjcmlpiebaaGreat
namespace Go.Proofs.YthncdjcmlpiebaaGreat
open Go.RowKit

set_option maxRecDepth 100000 in
set_option maxHeartbeats 1600000 in
theorem specLargestClique_any (N : Int) (A : Option Addr) (n c : Nat) (X : List Int) (w : World) (hX : RI w A n X) (hn : n ≤ 9223372036854775807) :
    Calls Tryz.prog 81 #[.agg #[.int .i64 N, .slice A n c]] w fun e w' => e = .returned (.int .i64 (ofGraph N X 0 (largestOf clq))) ∧ Below w.heap.size w w' := by
  rcases isGraph_cases N X with hg | ⟨k, Q, rfl, rfl, h⟩
  · have Hg := Lib.hid hg
    have Hr := Lib.hid (ofGraph_no hg 0 (largestOf clq))
    clear hg
    go_enter Tryz.func81, Tryz.ntmps81
    go_wp2_with fail
    refine wp_loop_rounds 1 ?_
    rw [rounds_succ]
    go_wp2_with fail
    refine (specIsGraph_is (hX.up (by go_grown)) hn Hg.out).mono ?_
    rintro e w1 ⟨rfl, hb1⟩
    have hw1 : Below w.heap.size w w1 := Up.then_ (by go_grown) hb1
    obtain ⟨hc1, hf1⟩ := bcell hb1
    have hz1 := hb1.size
    try simp only [World.size_alloc] at hz1
    try simp only [World.size_setCell] at hz1
    try simp only [World.size_alloc] at hz1
    try simp only [World.size_drew] at hz1
    have hl1_0 : w.heap.size < w1.heap.size := by omega
    go_wp2
    go_ret
    exact ⟨ret_int Hr.out.symm, hw1⟩
  · obtain rfl : n = k := by rw [← hX.1, ints_len, h.len]
    have Hr := Lib.hid (ofGraph_ok h 0 (largestOf clq))
    have hn7 := h.le
    have hsh := shl_p2 (k := n) (by omega)
    have hp1 := p2_le hn7
    have hp2 := p2_pos n
    go_enter Tryz.func81, Tryz.ntmps81
    go_wp2_with fail
    go_loopw [3, 4] (fun v i wr => ∃ k : Nat, k + 1 ≤ p2 n ∧ i = .int .i64 ((k : Int) + 1) ∧ v = .int .i64 (bestK (clq Q) k) ∧ Blk wr w.heap.size 26 #[.int .i64 n, .slice A n c] ∧ Below w.heap.size w wr) (fun _ i _ => p2 n - (intOf i).toNat)
    case atStart => exact ⟨0, by omega, rfl, rfl, Blk.new _ _ _, by go_grown⟩
    case round =>
      obtain ⟨k, hk, rfl, rfl, hblk, hwr⟩ := hrel
      have hyb := hblk.two
      have hbk := bestK_le (clq Q) k
      go_wp2_with fail
      refine (specIsGraph_is (hX.up hwr) hn h.is).mono ?_
      rintro e w2 ⟨rfl, hb2⟩
      have hw2 := Up.then_ hwr hb2
      replace hblk := hblk.up hb2
      replace hyb := hblk.two
      by_cases hlt : k + 1 < p2 n
      · have hs : k + 1 < 2 ^ n := hlt
        have e1 : Hid (((k : Int) + 1) = ((k + 1 : Nat) : Int)) := (by omega : ((k : Int) + 1) = ((k + 1 : Nat) : Int))
        go_wp2_with fail
        rw [e1.out]
        refine (specCountSet_any (k + 1) _ (by omega)).mono ?_
        rintro e w3 ⟨rfl, hb3⟩
        have hw3 := Up.then_ hw2 hb3
        replace hblk := hblk.up hb3
        replace hyb := hblk.two
        go_wp2_with fail
        refine (specCountSet_any (bestK (clq Q) k) _ (by omega)).mono ?_
        rintro e w4 ⟨rfl, hb4⟩
        have hw4 := Up.then_ hw3 hb4
        replace hblk := hblk.up hb4
        replace hyb := hblk.two
        have hX4 := hX.up hw4
        by_cases hc : card (bestK (clq Q) k) < card (k + 1)
        · go_wp2_with fail
          rw [e1.out]
          refine (specIsClique_ok (s := k + 1) hX4 h hs).mono ?_
          rintro e w5 ⟨rfl, hb5⟩
          replace hblk := hblk.up hb5
          have hw5 := Up.then_ hw4 hb5
          rcases Bool.eq_false_or_eq_true (clq Q (k + 1)) with e2 | e2
          · have HB := Lib.hid (bestK_yes hc e2)
            go_wp2
            go_roundw
            case rel => exact ⟨k + 1, by omega, by go_num, by rw [HB.out]; go_num, hblk, hw5⟩
            case measure => simp [intOf]; omega
          · have HB := Lib.hid (bestK_not (k := k) e2)
            go_wp2
            go_roundw
            case rel => exact ⟨k + 1, by omega, by go_num, by rw [HB.out], hblk, hw5⟩
            case measure => simp [intOf]; omega
        · have HB := Lib.hid (bestK_few (P := clq Q) hc)
          go_wp2
          go_roundw
          case rel => exact ⟨k + 1, by omega, by go_num, by rw [HB.out], hblk, hw4⟩
          case measure => simp [intOf]; omega
      · have hkk : k = p2 n - 1 := by omega
        have Hk := Lib.hid hkk
        clear hkk
        go_wp2
        go_ret
        exact ⟨ret_int (by rw [Hr.out, largestOf, Hk.out]; rfl), hw2⟩
def cliqueNumber (n : Nat) (Q : List Nat) : Int := (card (bestK (clq Q) (2 ^ n - 1)) : Nat)
set_option maxRecDepth 100000 in
theorem bestK_128 {P : Nat → Bool} {n : Nat} (h7 : n ≤ 7) : bestK P (2 ^ n - 1) < 128 := by
  have h1 := bestK_le P (2 ^ n - 1)
  have h2 := pow_le7 h7
  have h3 := Nat.two_pow_pos n
  omega
set_option maxRecDepth 100000 in
theorem specCliqueNumber_any (N : Int) (A : Option Addr) (n c : Nat) (X : List Int) (w : World) (hX : RI w A n X) (hn : n ≤ 9223372036854775807) :
    Calls Tryz.prog 22 #[.agg #[.int .i64 N, .slice A n c]] w fun e w' => e = .returned (.int .i64 (ofGraph N X (-1) cliqueNumber)) ∧ Below w.heap.size w w' := by
  rcases isGraph_cases N X with hg | ⟨k, Q, rfl, rfl, h⟩
  · have Hg := Lib.hid hg
    have Hr := Lib.hid (ofGraph_no hg (-1) cliqueNumber)
    clear hg
    go_enter Tryz.func22, Tryz.ntmps22
    go_wp2_with fail
    refine (specIsGraph_is (hX.up (by go_grown)) hn Hg.out).mono ?_
    rintro e w1 ⟨rfl, hb1⟩
    have hw1 : Below w.heap.size w w1 := Up.then_ (by go_grown) hb1
    obtain ⟨hc1, hf1⟩ := bcell hb1
    have hz1 := hb1.size
    try simp only [World.size_alloc] at hz1
    try simp only [World.size_setCell] at hz1
    try simp only [World.size_alloc] at hz1
    try simp only [World.size_drew] at hz1
    have hl1_0 : w.heap.size < w1.heap.size := by omega
    go_wp2
    go_ret
    exact ⟨ret_int Hr.out.symm, hw1⟩
  · obtain rfl : n = k := by rw [← hX.1, ints_len, h.len]
    have Hr := Lib.hid (ofGraph_ok h (-1) cliqueNumber)
    have Hl := Lib.hid (ofGraph_ok h 0 (largestOf clq))
    go_enter Tryz.func22, Tryz.ntmps22
    go_wp2_with fail
    refine (specIsGraph_is (hX.up (by go_grown)) hn h.is).mono ?_
    rintro e w1 ⟨rfl, hb1⟩
    have hw1 : Below w.heap.size w w1 := Up.then_ (by go_grown) hb1
    obtain ⟨hc1, hf1⟩ := bcell hb1
    have hz1 := hb1.size
    try simp only [World.size_alloc] at hz1
    try simp only [World.size_setCell] at hz1
    try simp only [World.size_alloc] at hz1
    try simp only [World.size_drew] at hz1
    have hl1_0 : w.heap.size < w1.heap.size := by omega
    go_wp2_with fail
    refine (specLargestClique_any _ A n c _ _ (hX.up (by go_grown)) hn).mono ?_
    rintro e w2 ⟨rfl, hb2⟩
    have hw2 : Below w.heap.size w w2 := Up.then_ (by go_grown) hb2
    obtain ⟨hc2, hf2⟩ := bcell hb2
    have hz2 := hb2.size
    try simp only [World.size_alloc] at hz2
    try simp only [World.size_setCell] at hz2
    try simp only [World.size_alloc] at hz2
    try simp only [World.size_drew] at hz2
    have hl2_0 : w.heap.size < w2.heap.size := by omega
    go_wp2_with fail
    rw [Hl.out]
    refine (specCountSet_any (bestK (clq Q) (2 ^ n - 1)) _ (bestK_128 h.le)).mono ?_
    rintro e w3 ⟨rfl, hb3⟩
    go_wp2
    go_ret
    exact ⟨ret_int Hr.out.symm, Up.then_ hw2 hb3⟩
end Go.Proofs.YthncdjcmlpiebaaGreat
namespace Go.Proofs.YthncdjcmlpiebaaGreat
open Go.RowKit

set_option maxRecDepth 100000 in
theorem l2Edge_is {N : Int} {A : Option Addr} {n c v x : Nat} {Q : List Nat} {w : World} {b : Bool} (hX : RI w A n (ints Q)) (h : GOk n Q) (hv : v < n) (hx : x < n) (hb : (nb Q v).testBit x = b) :
    Calls Tryz.prog 69 #[.agg #[.int .i64 N, .slice A n c], .int .i64 v, .int .i64 x] w fun e w' => e = .returned (.bool b) ∧ Below w.heap.size w w' := by
  subst hb
  have hn7 := h.le
  obtain ⟨a, rfl, hca⟩ := hX.nb_after hv
  have hr := h.nb7 v
  have hbit := bit_one (nb Q v) x (by omega)
  go_enter Tryz.func69, Tryz.ntmps69
  go_wp2
  go_ret
  exact ⟨rfl, by go_grown⟩
end Go.Proofs.YthncdjcmlpiebaaGreat
namespace Go.Proofs.YthncdjcmlpiebaaGreat
open Go.RowKit

end Go.Proofs.YthncdjcmlpiebaaGreat
namespace Go.Proofs.YthncdjcmlpiebaaGreat
open Go.RowKit
end Go.Proofs.YthncdjcmlpiebaaGreat
