/- Walks of chapter 7: cliques, the largest sets, the maximal cliques. Walks of chapter 7, second part. Walks of chapter 7: colorings; an edge read by the reference. Walks of chapter 7: the maximal cliques. Walks of chapter 7: the reference's maximal cliques. -/
import Derived.Test.YthncdjcmlpiebaaGreatDoorW3A
namespace Go.Proofs.YthncdjcmlpiebaaGreatDoor
open Go.RowKit

set_option maxRecDepth 100000 in
theorem clq_all {n s : Nat} {Q : List Nat} (hs : s < 2 ^ n) (h : ∀ v, v < n → s.testBit v = true → clqAt Q s v = true) : clq Q s = true := by
  rw [clq_iff]
  exact fun v _ hb => h v (bit_lt hs hb) hb
set_option maxRecDepth 100000 in
theorem clq_at_no {n s v : Nat} {Q : List Nat} (h7 : n ≤ 7) (hv : v < n) (hb : s.testBit v = true) (h : clqAt Q s v = false) : clq Q s = false := clq_false (mem_listOf.2 ⟨by omega, hb⟩) h
set_option maxRecDepth 100000 in
set_option maxHeartbeats 800000 in
theorem specIsClique_ok {A : Option Addr} {n c s : Nat} {Q : List Nat} {w : World} (hX : RI w A n (ints Q)) (h : GOk n Q) (hs : s < 2 ^ n) :
    Calls Tryz.prog 120 #[.agg #[.int .i64 n, .slice A n c], .int .i64 s] w fun e w' => e = .returned (.bool (clq Q s)) ∧ Below w.heap.size w w' := by
  have hn7 := h.le
  have hs7 := h.n7 hs
  go_enter Tryz.func120, Tryz.ntmps120
  go_wp2_with fail
  refine (specIsSet_ok (hX.up (by go_grown)) h hs).mono ?_
  rintro e w1 ⟨rfl, hb1⟩
  have hw1 : Below w.heap.size w w1 := Up.then_ (by go_grown) hb1
  obtain ⟨hc1, hf1⟩ := bcell hb1
  have hz1 := hb1.size
  try simp only [World.size_alloc] at hz1
  try simp only [World.size_setCell] at hz1
  try simp only [World.size_alloc] at hz1
  try simp only [World.size_drew] at hz1
  have hl1_0 : w.heap.size < w1.heap.size := by omega
  have hblk0 := (Blk.new w 29 #[.int .i64 n, .slice A n c]).up hb1
  clear hc1 hf1
  go_wp2_with fail
  go_loopw [5] (fun i wr => ∃ k : Nat, k ≤ n ∧ i = .int .i64 k ∧ Below w1.heap.size w1 wr ∧ Hid (∀ j, j < k → s.testBit j = true → clqAt Q s j = true)) (fun i _ => n - (intOf i).toNat)
  case atStart => exact ⟨0, Nat.zero_le _, rfl, Below.refl _ _, fun j h => absurd h (by omega)⟩
  case round =>
    obtain ⟨k, hk, rfl, hb, hall⟩ := hrel
    have hblk := hblk0.up hb
    have hwr := Up.then_ hw1 hb
    obtain ⟨hx0, hx1⟩ := hblk.two
    by_cases hlt : k < n
    · obtain ⟨a, rfl, hca⟩ := (hX.up hwr).nb_at hlt
      have hbit := bit_one s k (by omega)
      rcases Bool.eq_false_or_eq_true (s.testBit k) with e1 | e1
      · have H1 := Lib.hid e1
        rw [e1] at hbit
        clear e1
        have hand := i64_and7 (h.nb7 k) hs7
        have hsh := shl_p2 (k := k) (by omega)
        have hle : p2 k ≤ s := (sub_bit H1.out).1
        rcases Bool.eq_false_or_eq_true (clqAt Q s k) with e2 | e2
        · have H2 := Lib.hid e2
          have hne : (((nb Q k &&& s : Nat) : Int)) = (s : Int) - (p2 k : Int) := by
            rw [clqAt_ref h H1.out, beq_iff_eq] at e2
            have : s - 2 ^ k = s - p2 k := rfl
            omega
          rw [hne] at hand
          clear e2 hne
          go_wp2_with fail
          go_quiet (fail)
          go_wp2
          go_roundw
          case rel => exact ⟨k + 1, by omega, by go_num, below_drewN hb _, fun j hj => by
            rcases Nat.lt_succ_iff_lt_or_eq.1 hj with h' | rfl
            · exact hall.out j h'
            · exact fun _ => H2.out⟩
          case measure => simp [intOf]; omega
        · have Hno := Lib.hid (clq_at_no hn7 hlt H1.out e2)
          have hne : (((nb Q k &&& s : Nat) : Int) != (s : Int) - (p2 k : Int)) = true := by
            rw [clqAt_ref h H1.out, beq_eq_false_iff_ne] at e2
            rw [bne_iff_ne]
            have : s - 2 ^ k = s - p2 k := rfl
            omega
          clear e2
          go_wp2_with fail
          go_quiet (fail)
          go_wp2
          go_ret
          exact ⟨ret_bool Hno.out.symm, below_drewN hwr _⟩
      · have H1 := Lib.hid e1
        rw [e1] at hbit
        clear e1
        go_wp2_with fail
        go_quiet (fail)
        go_wp2
        go_roundw
        case rel => exact ⟨k + 1, by omega, by go_num, below_drewN hb _, fun j hj => by
          rcases Nat.lt_succ_iff_lt_or_eq.1 hj with h' | rfl
          · exact hall.out j h'
          · exact fun hh => absurd (H1.out.symm.trans hh) Bool.false_ne_true⟩
        case measure => simp [intOf]; omega
    · obtain rfl : k = n := by omega
      go_wp2
      go_ret
      exact ⟨ret_bool (clq_all hs hall.out).symm, hwr⟩
set_option maxRecDepth 100000 in
theorem indep_all {n s : Nat} {Q : List Nat} (hs : s < 2 ^ n) (h : ∀ v, v < n → s.testBit v = true → nb Q v &&& s = 0) : indep Q s = true := by
  rw [indep_iff]
  exact fun v _ hb => h v (bit_lt hs hb) hb
set_option maxRecDepth 100000 in
theorem indep_at_no {n s v : Nat} {Q : List Nat} (h7 : n ≤ 7) (hv : v < n) (hb : s.testBit v = true) (h : nb Q v &&& s ≠ 0) : indep Q s = false := by
  rw [← Bool.not_eq_true, indep_iff]
  exact fun e => h (e v (by omega) hb)
set_option maxRecDepth 100000 in
set_option maxHeartbeats 800000 in
theorem specIsIndependent_ok {A : Option Addr} {n c s : Nat} {Q : List Nat} {w : World} (hX : RI w A n (ints Q)) (h : GOk n Q) (hs : s < 2 ^ n) :
    Calls Tryz.prog 74 #[.agg #[.int .i64 n, .slice A n c], .int .i64 s] w fun e w' => e = .returned (.bool (indep Q s)) ∧ Below w.heap.size w w' := by
  have hn7 := h.le
  have hs7 := h.n7 hs
  go_enter Tryz.func74, Tryz.ntmps74
  go_wp2_with fail
  refine (specIsSet_ok (hX.up (by go_grown)) h hs).mono ?_
  rintro e w1 ⟨rfl, hb1⟩
  have hw1 : Below w.heap.size w w1 := Up.then_ (by go_grown) hb1
  obtain ⟨hc1, hf1⟩ := bcell hb1
  have hz1 := hb1.size
  try simp only [World.size_alloc] at hz1
  try simp only [World.size_setCell] at hz1
  try simp only [World.size_alloc] at hz1
  try simp only [World.size_drew] at hz1
  have hl1_0 : w.heap.size < w1.heap.size := by omega
  have hblk := (Blk.new w 29 #[.int .i64 n, .slice A n c]).up hb1
  obtain ⟨hx0, hx1⟩ := hblk.two
  clear hc1 hf1
  have hX1 := hX.up hw1
  go_wp2_with fail
  go_loop [5] (fun i => ∃ k : Nat, k ≤ n ∧ i = .int .i64 k ∧ Hid (∀ j, j < k → s.testBit j = true → nb Q j &&& s = 0)) (fun i => n - (intOf i).toNat)
  case atStart => exact ⟨0, Nat.zero_le _, rfl, fun j h => absurd h (by omega)⟩
  case round =>
    obtain ⟨k, hk, rfl, hall⟩ := hrel
    by_cases hlt : k < n
    · obtain ⟨a, rfl, hca⟩ := hX1.nb_at hlt
      have hbit := bit_one s k (by omega)
      rcases Bool.eq_false_or_eq_true (s.testBit k) with e1 | e1
      · have H1 := Lib.hid e1
        rw [e1] at hbit
        clear e1
        have hand := i64_and7 (h.nb7 k) hs7
        by_cases e2 : nb Q k &&& s = 0
        · have H2 := Lib.hid e2
          rw [e2] at hand
          clear e2
          go_wp2
          go_round
          case rel => exact ⟨k + 1, by omega, by go_num, fun j hj => by
            rcases Nat.lt_succ_iff_lt_or_eq.1 hj with h' | rfl
            · exact hall.out j h'
            · exact fun _ => H2.out⟩
          case measure => simp [intOf]; omega
        · have Hno := Lib.hid (indep_at_no hn7 hlt H1.out e2)
          have hne : (((nb Q k &&& s : Nat) : Int) != 0) = true := by rw [bne_iff_ne]; omega
          clear e2
          go_wp2
          go_ret
          exact ⟨ret_bool Hno.out.symm, hw1⟩
      · have H1 := Lib.hid e1
        rw [e1] at hbit
        clear e1
        go_wp2
        go_round
        case rel => exact ⟨k + 1, by omega, by go_num, fun j hj => by
          rcases Nat.lt_succ_iff_lt_or_eq.1 hj with h' | rfl
          · exact hall.out j h'
          · exact fun hh => absurd (H1.out.symm.trans hh) Bool.false_ne_true⟩
        case measure => simp [intOf]; omega
    · obtain rfl : k = n := by omega
      go_wp2
      go_ret
      exact ⟨ret_bool (indep_all hs hall.out).symm, hw1⟩
set_option maxRecDepth 100000 in
theorem isGraph_cases (N : Int) (X : List Int) : (isGraph N X = false) ∨ ∃ (k : Nat) (Q : List Nat), N = k ∧ X = ints Q ∧ GOk k Q := by
  rcases Bool.eq_false_or_eq_true (isGraph N X) with h | h
  · exact .inr (isGraph_ok h)
  · exact .inl h
/-- A number that a graph has: of the graph's data as they are. -/
def ofGraph (N : Int) (X : List Int) (z : Int) (f : Nat → List Nat → Int) : Int := if isGraph N X then f N.toNat (X.map Int.toNat) else z
set_option maxRecDepth 100000 in
theorem nats_ints (Q : List Nat) : (ints Q).map Int.toNat = Q := by simp [ints, List.map_map, Function.comp_def]
set_option maxRecDepth 100000 in
theorem ofGraph_ok {k : Nat} {Q : List Nat} (h : GOk k Q) (z : Int) (f : Nat → List Nat → Int) : ofGraph k (ints Q) z f = f k Q := by
  rw [ofGraph, if_pos h.is, nats_ints, Int.toNat_natCast]
set_option maxRecDepth 100000 in
theorem ofGraph_no {N : Int} {X : List Int} (h : isGraph N X = false) (z : Int) (f : Nat → List Nat → Int) : ofGraph N X z f = z := by rw [ofGraph, h]; rfl
def largestOf (P : List Nat → Nat → Bool) (n : Nat) (Q : List Nat) : Int := (bestK (P Q) (2 ^ n - 1) : Nat)
end Go.Proofs.YthncdjcmlpiebaaGreatDoor
namespace Go.Proofs.YthncdjcmlpiebaaGreatDoor
open Go.RowKit

set_option maxRecDepth 100000 in
set_option maxHeartbeats 1600000 in
theorem specLargestClique_any (N : Int) (A : Option Addr) (n c : Nat) (X : List Int) (w : World) (hX : RI w A n X) (hn : n ≤ 9223372036854775807) :
    Calls Tryz.prog 72 #[.agg #[.int .i64 N, .slice A n c]] w fun e w' => e = .returned (.int .i64 (ofGraph N X 0 (largestOf clq))) ∧ Below w.heap.size w w' := by
  rcases isGraph_cases N X with hg | ⟨k, Q, rfl, rfl, h⟩
  · have Hg := Lib.hid hg
    have Hr := Lib.hid (ofGraph_no hg 0 (largestOf clq))
    clear hg
    go_enter Tryz.func72, Tryz.ntmps72
    go_wp2_with fail
    refine wp_loop_rounds 1 ?_
    rw [rounds_succ]
    go_wp2_with fail
    refine (specIsGraph_is (hX.up (by go_grown)) hn Hg.out).mono ?_
    rintro e w1 ⟨rfl, hb1⟩
    have hw1 : Below w.heap.size w w1 := Up.then_ (by go_grown) hb1
    obtain ⟨hc1, hf1⟩ := bcell hb1
    have hz1 := hb1.size
    try simp only [World.size_alloc] at hz1
    try simp only [World.size_setCell] at hz1
    try simp only [World.size_alloc] at hz1
    try simp only [World.size_drew] at hz1
    have hl1_0 : w.heap.size < w1.heap.size := by omega
    go_wp2
    go_ret
    exact ⟨ret_int Hr.out.symm, hw1⟩
  · obtain rfl : n = k := by rw [← hX.1, ints_len, h.len]
    have Hr := Lib.hid (ofGraph_ok h 0 (largestOf clq))
    have hn7 := h.le
    have hsh := shl_p2 (k := n) (by omega)
    have hp1 := p2_le hn7
    have hp2 := p2_pos n
    go_enter Tryz.func72, Tryz.ntmps72
    go_wp2_with fail
    go_loopw [3, 4] (fun v i wr => ∃ k : Nat, k + 1 ≤ p2 n ∧ i = .int .i64 ((k : Int) + 1) ∧ v = .int .i64 (bestK (clq Q) k) ∧ Blk wr w.heap.size 29 #[.int .i64 n, .slice A n c] ∧ Below w.heap.size w wr) (fun _ i _ => p2 n - (intOf i).toNat)
    case atStart => exact ⟨0, by omega, rfl, rfl, Blk.new _ _ _, by go_grown⟩
    case round =>
      obtain ⟨k, hk, rfl, rfl, hblk, hwr⟩ := hrel
      have hyb := hblk.two
      have hbk := bestK_le (clq Q) k
      go_wp2_with fail
      refine (specIsGraph_is (hX.up hwr) hn h.is).mono ?_
      rintro e w2 ⟨rfl, hb2⟩
      have hw2 := Up.then_ hwr hb2
      replace hblk := hblk.up hb2
      replace hyb := hblk.two
      by_cases hlt : k + 1 < p2 n
      · have hs : k + 1 < 2 ^ n := hlt
        have e1 : Hid (((k : Int) + 1) = ((k + 1 : Nat) : Int)) := (by omega : ((k : Int) + 1) = ((k + 1 : Nat) : Int))
        go_wp2_with fail
        rw [e1.out]
        refine (specCountSet_any (k + 1) _ (by omega)).mono ?_
        rintro e w3 ⟨rfl, hb3⟩
        have hw3 := Up.then_ hw2 hb3
        replace hblk := hblk.up hb3
        replace hyb := hblk.two
        go_wp2_with fail
        refine (specCountSet_any (bestK (clq Q) k) _ (by omega)).mono ?_
        rintro e w4 ⟨rfl, hb4⟩
        have hw4 := Up.then_ hw3 hb4
        replace hblk := hblk.up hb4
        replace hyb := hblk.two
        have hX4 := hX.up hw4
        by_cases hc : card (bestK (clq Q) k) < card (k + 1)
        · go_wp2_with fail
          rw [e1.out]
          refine (specIsClique_ok (s := k + 1) hX4 h hs).mono ?_
          rintro e w5 ⟨rfl, hb5⟩
          replace hblk := hblk.up hb5
          have hw5 := Up.then_ hw4 hb5
          rcases Bool.eq_false_or_eq_true (clq Q (k + 1)) with e2 | e2
          · have HB := Lib.hid (bestK_yes hc e2)
            go_wp2
            go_roundw
            case rel => exact ⟨k + 1, by omega, by go_num, by rw [HB.out]; go_num, hblk, hw5⟩
            case measure => simp [intOf]; omega
          · have HB := Lib.hid (bestK_not (k := k) e2)
            go_wp2
            go_roundw
            case rel => exact ⟨k + 1, by omega, by go_num, by rw [HB.out], hblk, hw5⟩
            case measure => simp [intOf]; omega
        · have HB := Lib.hid (bestK_few (P := clq Q) hc)
          go_wp2
          go_roundw
          case rel => exact ⟨k + 1, by omega, by go_num, by rw [HB.out], hblk, hw4⟩
          case measure => simp [intOf]; omega
      · have hkk : k = p2 n - 1 := by omega
        have Hk := Lib.hid hkk
        clear hkk
        go_wp2
        go_ret
        exact ⟨ret_int (by rw [Hr.out, largestOf, Hk.out]; rfl), hw2⟩
set_option maxRecDepth 100000 in
set_option maxHeartbeats 1600000 in
theorem specLargestIndependent_any (N : Int) (A : Option Addr) (n c : Nat) (X : List Int) (w : World) (hX : RI w A n X) (hn : n ≤ 9223372036854775807) :
    Calls Tryz.prog 21 #[.agg #[.int .i64 N, .slice A n c]] w fun e w' => e = .returned (.int .i64 (ofGraph N X 0 (largestOf indep))) ∧ Below w.heap.size w w' := by
  rcases isGraph_cases N X with hg | ⟨k, Q, rfl, rfl, h⟩
  · have Hg := Lib.hid hg
    have Hr := Lib.hid (ofGraph_no hg 0 (largestOf indep))
    clear hg
    go_enter Tryz.func21, Tryz.ntmps21
    go_wp2_with fail
    refine wp_loop_rounds 1 ?_
    rw [rounds_succ]
    go_wp2_with fail
    refine (specIsGraph_is (hX.up (by go_grown)) hn Hg.out).mono ?_
    rintro e w1 ⟨rfl, hb1⟩
    have hw1 : Below w.heap.size w w1 := Up.then_ (by go_grown) hb1
    obtain ⟨hc1, hf1⟩ := bcell hb1
    have hz1 := hb1.size
    try simp only [World.size_alloc] at hz1
    try simp only [World.size_setCell] at hz1
    try simp only [World.size_alloc] at hz1
    try simp only [World.size_drew] at hz1
    have hl1_0 : w.heap.size < w1.heap.size := by omega
    go_wp2
    go_ret
    exact ⟨ret_int Hr.out.symm, hw1⟩
  · obtain rfl : n = k := by rw [← hX.1, ints_len, h.len]
    have Hr := Lib.hid (ofGraph_ok h 0 (largestOf indep))
    have hn7 := h.le
    have hsh := shl_p2 (k := n) (by omega)
    have hp1 := p2_le hn7
    have hp2 := p2_pos n
    go_enter Tryz.func21, Tryz.ntmps21
    go_wp2_with fail
    go_loopw [3, 4] (fun v i wr => ∃ k : Nat, k + 1 ≤ p2 n ∧ i = .int .i64 ((k : Int) + 1) ∧ v = .int .i64 (bestK (indep Q) k) ∧ Blk wr w.heap.size 29 #[.int .i64 n, .slice A n c] ∧ Below w.heap.size w wr) (fun _ i _ => p2 n - (intOf i).toNat)
    case atStart => exact ⟨0, by omega, rfl, rfl, Blk.new _ _ _, by go_grown⟩
    case round =>
      obtain ⟨k, hk, rfl, rfl, hblk, hwr⟩ := hrel
      have hyb := hblk.two
      have hbk := bestK_le (indep Q) k
      go_wp2_with fail
      refine (specIsGraph_is (hX.up hwr) hn h.is).mono ?_
      rintro e w2 ⟨rfl, hb2⟩
      have hw2 := Up.then_ hwr hb2
      replace hblk := hblk.up hb2
      replace hyb := hblk.two
      by_cases hlt : k + 1 < p2 n
      · have hs : k + 1 < 2 ^ n := hlt
        have e1 : Hid (((k : Int) + 1) = ((k + 1 : Nat) : Int)) := (by omega : ((k : Int) + 1) = ((k + 1 : Nat) : Int))
        go_wp2_with fail
        rw [e1.out]
        refine (specCountSet_any (k + 1) _ (by omega)).mono ?_
        rintro e w3 ⟨rfl, hb3⟩
        have hw3 := Up.then_ hw2 hb3
        replace hblk := hblk.up hb3
        replace hyb := hblk.two
        go_wp2_with fail
        refine (specCountSet_any (bestK (indep Q) k) _ (by omega)).mono ?_
        rintro e w4 ⟨rfl, hb4⟩
        have hw4 := Up.then_ hw3 hb4
        replace hblk := hblk.up hb4
        replace hyb := hblk.two
        have hX4 := hX.up hw4
        by_cases hc : card (bestK (indep Q) k) < card (k + 1)
        · go_wp2_with fail
          rw [e1.out]
          refine (specIsIndependent_ok (s := k + 1) hX4 h hs).mono ?_
          rintro e w5 ⟨rfl, hb5⟩
          replace hblk := hblk.up hb5
          have hw5 := Up.then_ hw4 hb5
          rcases Bool.eq_false_or_eq_true (indep Q (k + 1)) with e2 | e2
          · have HB := Lib.hid (bestK_yes hc e2)
            go_wp2
            go_roundw
            case rel => exact ⟨k + 1, by omega, by go_num, by rw [HB.out]; go_num, hblk, hw5⟩
            case measure => simp [intOf]; omega
          · have HB := Lib.hid (bestK_not (k := k) e2)
            go_wp2
            go_roundw
            case rel => exact ⟨k + 1, by omega, by go_num, by rw [HB.out], hblk, hw5⟩
            case measure => simp [intOf]; omega
        · have HB := Lib.hid (bestK_few (P := indep Q) hc)
          go_wp2
          go_roundw
          case rel => exact ⟨k + 1, by omega, by go_num, by rw [HB.out], hblk, hw4⟩
          case measure => simp [intOf]; omega
      · have hkk : k = p2 n - 1 := by omega
        have Hk := Lib.hid hkk
        clear hkk
        go_wp2
        go_ret
        exact ⟨ret_int (by rw [Hr.out, largestOf, Hk.out]; rfl), hw2⟩
def cliqueNumber (n : Nat) (Q : List Nat) : Int := (card (bestK (clq Q) (2 ^ n - 1)) : Nat)
set_option maxRecDepth 100000 in
theorem bestK_128 {P : Nat → Bool} {n : Nat} (h7 : n ≤ 7) : bestK P (2 ^ n - 1) < 128 := by
  have h1 := bestK_le P (2 ^ n - 1)
  have h2 := pow_le7 h7
  have h3 := Nat.two_pow_pos n
  omega
set_option maxRecDepth 100000 in
theorem specCliqueNumber_any (N : Int) (A : Option Addr) (n c : Nat) (X : List Int) (w : World) (hX : RI w A n X) (hn : n ≤ 9223372036854775807) :
    Calls Tryz.prog 19 #[.agg #[.int .i64 N, .slice A n c]] w fun e w' => e = .returned (.int .i64 (ofGraph N X (-1) cliqueNumber)) ∧ Below w.heap.size w w' := by
  rcases isGraph_cases N X with hg | ⟨k, Q, rfl, rfl, h⟩
  · have Hg := Lib.hid hg
    have Hr := Lib.hid (ofGraph_no hg (-1) cliqueNumber)
    clear hg
    go_enter Tryz.func19, Tryz.ntmps19
    go_wp2_with fail
    refine (specIsGraph_is (hX.up (by go_grown)) hn Hg.out).mono ?_
    rintro e w1 ⟨rfl, hb1⟩
    have hw1 : Below w.heap.size w w1 := Up.then_ (by go_grown) hb1
    obtain ⟨hc1, hf1⟩ := bcell hb1
    have hz1 := hb1.size
    try simp only [World.size_alloc] at hz1
    try simp only [World.size_setCell] at hz1
    try simp only [World.size_alloc] at hz1
    try simp only [World.size_drew] at hz1
    have hl1_0 : w.heap.size < w1.heap.size := by omega
    go_wp2
    go_ret
    exact ⟨ret_int Hr.out.symm, hw1⟩
  · obtain rfl : n = k := by rw [← hX.1, ints_len, h.len]
    have Hr := Lib.hid (ofGraph_ok h (-1) cliqueNumber)
    have Hl := Lib.hid (ofGraph_ok h 0 (largestOf clq))
    go_enter Tryz.func19, Tryz.ntmps19
    go_wp2_with fail
    refine (specIsGraph_is (hX.up (by go_grown)) hn h.is).mono ?_
    rintro e w1 ⟨rfl, hb1⟩
    have hw1 : Below w.heap.size w w1 := Up.then_ (by go_grown) hb1
    obtain ⟨hc1, hf1⟩ := bcell hb1
    have hz1 := hb1.size
    try simp only [World.size_alloc] at hz1
    try simp only [World.size_setCell] at hz1
    try simp only [World.size_alloc] at hz1
    try simp only [World.size_drew] at hz1
    have hl1_0 : w.heap.size < w1.heap.size := by omega
    go_wp2_with fail
    refine (specLargestClique_any _ A n c _ _ (hX.up (by go_grown)) hn).mono ?_
    rintro e w2 ⟨rfl, hb2⟩
    have hw2 : Below w.heap.size w w2 := Up.then_ (by go_grown) hb2
    obtain ⟨hc2, hf2⟩ := bcell hb2
    have hz2 := hb2.size
    try simp only [World.size_alloc] at hz2
    try simp only [World.size_setCell] at hz2
    try simp only [World.size_alloc] at hz2
    try simp only [World.size_drew] at hz2
    have hl2_0 : w.heap.size < w2.heap.size := by omega
    go_wp2_with fail
    rw [Hl.out]
    refine (specCountSet_any (bestK (clq Q) (2 ^ n - 1)) _ (bestK_128 h.le)).mono ?_
    rintro e w3 ⟨rfl, hb3⟩
    go_wp2
    go_ret
    exact ⟨ret_int Hr.out.symm, Up.then_ hw2 hb3⟩
end Go.Proofs.YthncdjcmlpiebaaGreatDoor
namespace Go.Proofs.YthncdjcmlpiebaaGreatDoor
open Go.RowKit

def colPair (Q : List Nat) (C : List Int) (v x : Nat) : Bool := (nb Q v).testBit x && (C.getD x 0 == C.getD v 0)
def coloring (n : Nat) (Q : List Nat) (C : List Int) : Bool :=
  decide (∀ v, v < n → (0 ≤ C.getD v 0 ∧ C.getD v 0 ≤ 6) ∧ ∀ x, x < v → colPair Q C v x = false)
def isColoring (N : Int) (X C : List Int) : Bool := isGraph N X && (decide (C.length = X.length) && coloring X.length (X.map Int.toNat) C)
set_option maxRecDepth 100000 in
theorem isColoring_no {N : Int} {X C : List Int} (h : isGraph N X = false) : isColoring N X C = false := by rw [isColoring, h]; rfl
set_option maxRecDepth 100000 in
theorem isColoring_len {N : Int} {X C : List Int} (h : C.length ≠ X.length) : isColoring N X C = false := by
  rw [isColoring, decide_eq_false h]; simp
set_option maxRecDepth 100000 in
theorem nats_of (Q : List Nat) : (ints Q).map Int.toNat = Q := by simp [ints, List.map_map, Function.comp_def]
set_option maxRecDepth 100000 in
theorem isColoring_ok {n : Nat} {Q : List Nat} {C : List Int} (h : GOk n Q) (hl : C.length = n) : isColoring n (ints Q) C = coloring n Q C := by
  rw [isColoring, h.is, nats_of, ints_len, h.len, hl]; simp
set_option maxRecDepth 100000 in
theorem coloring_all {n : Nat} {Q : List Nat} {C : List Int} (h : ∀ v, v < n → (0 ≤ C.getD v 0 ∧ C.getD v 0 ≤ 6) ∧ ∀ x, x < v → colPair Q C v x = false) : coloring n Q C = true := decide_eq_true h
set_option maxRecDepth 100000 in
theorem coloring_out {n v : Nat} {Q : List Nat} {C : List Int} (hv : v < n) (h : ¬ (0 ≤ C.getD v 0 ∧ C.getD v 0 ≤ 6)) : coloring n Q C = false := decide_eq_false fun k => h (k v hv).1
set_option maxRecDepth 100000 in
theorem coloring_pair {n v x : Nat} {Q : List Nat} {C : List Int} (hv : v < n) (hx : x < v) (h : colPair Q C v x = true) : coloring n Q C = false :=
  decide_eq_false fun k => by have := (k v hv).2 x hx; rw [h] at this; cases this

set_option maxRecDepth 100000 in
theorem upk3 {w w' : World} (h : Up w w') {b : Addr} {j k : Nat} {u v : Value} (hl : b.block < w.heap.size) (hu : w.cell? (b.add k) = some u) (hv : w.cell? (b.add j) = some v) :
    Up w w' ∧ (∀ b o, b < w.heap.size → w'.cell? ⟨b, o, none⟩ = w.cell? ⟨b, o, none⟩) ∧ w'.cell? (b.add k) = some u ∧ w'.cell? (b.add j) = some v :=
  ⟨h, fun _ _ hb => h.cell hb, (h.cell (by rw [block_of_add]; exact hl)).trans hu, (h.cell (by rw [block_of_add]; exact hl)).trans hv⟩
set_option maxRecDepth 100000 in
theorem l2Edge_is {N : Int} {A : Option Addr} {n c v x : Nat} {Q : List Nat} {w : World} {b : Bool} (hX : RI w A n (ints Q)) (h : GOk n Q) (hv : v < n) (hx : x < n) (hb : (nb Q v).testBit x = b) :
    Calls Tryz.prog 112 #[.agg #[.int .i64 N, .slice A n c], .int .i64 v, .int .i64 x] w fun e w' => e = .returned (.bool b) ∧ Below w.heap.size w w' := by
  subst hb
  have hn7 := h.le
  obtain ⟨a, rfl, hca⟩ := hX.nb_after hv
  have hr := h.nb7 v
  have hbit := bit_one (nb Q v) x (by omega)
  go_enter Tryz.func112, Tryz.ntmps112
  go_wp2
  go_ret
  exact ⟨rfl, by go_grown⟩

end Go.Proofs.YthncdjcmlpiebaaGreatDoor
namespace Go.Proofs.YthncdjcmlpiebaaGreatDoor
open Go.RowKit

def maxCliquesOf (N : Int) (X : List Int) : List Nat := if isGraph N X then maxCliques (X.map Int.toNat) N.toNat else []
set_option maxRecDepth 100000 in
theorem maxCliquesOf_no {N : Int} {X : List Int} (h : isGraph N X = false) : maxCliquesOf N X = [] := by rw [maxCliquesOf, h]; rfl
set_option maxRecDepth 100000 in
theorem maxCliquesOf_ok {n : Nat} {Q : List Nat} (h : GOk n Q) : maxCliquesOf n (ints Q) = maxCliques Q n := by rw [maxCliquesOf, if_pos h.is, nats_ints, Int.toNat_natCast]
set_option maxRecDepth 100000 in
theorem standsK_yes {Q : List Nat} {s v : Nat} (h : standsK Q s v = true) (k : stands Q s v = true) : standsK Q s (v + 1) = true := by rw [standsK, h, k]; rfl
set_option maxRecDepth 100000 in
theorem standsK_no {Q : List Nat} {s v : Nat} (k : stands Q s v = false) : standsK Q s (v + 1) = false := by rw [standsK, k]; simp
set_option maxRecDepth 100000 in
theorem standsK_off {Q : List Nat} {s v : Nat} (h : standsK Q s v = false) : standsK Q s (v + 1) = false := by rw [standsK, h]; rfl
set_option maxRecDepth 100000 in
theorem stands_in {Q : List Nat} {s v : Nat} (h : s.testBit v = true) : stands Q s v = true := by rw [stands, h]; rfl
set_option maxRecDepth 100000 in
theorem stands_out {Q : List Nat} {s v : Nat} (h : s.testBit v = false) : stands Q s v = (dif s (nb Q v) != 0) := by rw [stands, h]; rfl
set_option maxRecDepth 100000 in
theorem maxCliques_len (Q : List Nat) {n : Nat} (h : n ≤ 7) : (maxCliques Q n).length ≤ 128 := by
  have h1 := maxK_len Q n (2 ^ n - 1)
  have h2 := pow_le7 h
  unfold maxCliques
  omega
set_option maxRecDepth 100000 in
set_option maxHeartbeats 2000000 in
theorem implMaximalCliques_any (N : Int) (A : Option Addr) (n c : Nat) (X : List Int) (w : World) (hX : RI w A n X) (hn : n ≤ 9223372036854775807) :
    Calls Tryz.prog 80 #[.agg #[.int .i64 N, .slice A n c]] w (GivesI (ints (maxCliquesOf N X)) w) := by
  rcases isGraph_cases N X with hg | ⟨k, Q, rfl, rfl, h⟩
  · have Hg := Lib.hid hg
    rw [maxCliquesOf_no hg]
    clear hg
    have hown0 : OwnI ((w.alloc (.cells #[.int .i64 N, .slice A n c] 29)).alloc (.cells #[] 3)) w.heap.size (some ⟨w.heap.size + 1, 0, none⟩) 0 0 [] := by
      have hh := OwnI.made (base := w.heap.size) (w.alloc (.cells #[.int .i64 N, .slice A n c] 29)) (by simp)
      have e : (w.alloc (.cells #[.int .i64 N, .slice A n c] 29)).heap.size = w.heap.size + 1 := by simp
      rw [e] at hh
      exact hh
    go_enter Tryz.func80, Tryz.ntmps80
    go_wp2_with fail
    refine (implIsGraph_is (hX.up (by go_grown)) hn Hg.out).mono ?_
    rintro e w1 ⟨rfl, hb1⟩
    have hw1 : Below w.heap.size w w1 := Up.then_ (by go_grown) hb1
    replace hown0 := hown0.up hb1
    go_wp2
    go_ret
    exact givesI_of (l := []) (hown0.cast rfl rfl) hw1
  · obtain rfl : n = k := by rw [← hX.1, ints_len, h.len]
    rw [maxCliquesOf_ok h]
    have hn7 := h.le
    have hp1 := p2_le hn7
    have hp2 := p2_pos n
    have hown0 : OwnI ((w.alloc (.cells #[.int .i64 n, .slice A n c] 29)).alloc (.cells #[] 3)) w.heap.size (some ⟨w.heap.size + 1, 0, none⟩) 0 0 [] := by
      have hh := OwnI.made (base := w.heap.size) (w.alloc (.cells #[.int .i64 n, .slice A n c] 29)) (by simp)
      have e : (w.alloc (.cells #[.int .i64 n, .slice A n c] 29)).heap.size = w.heap.size + 1 := by simp
      rw [e] at hh
      exact hh
    go_enter Tryz.func80, Tryz.ntmps80
    go_wp2_with fail
    refine (implIsGraph_is (hX.up (by go_grown)) hn h.is).mono ?_
    rintro e w1 ⟨rfl, hb1⟩
    have hw1 : Below w.heap.size w w1 := Up.then_ (by go_grown) hb1
    replace hown0 := hown0.up hb1
    have hblk0 := ((Blk.new w 29 #[.int .i64 n, .slice A n c]).alloc (.cells #[] 3)).up hb1
    go_wp2_with fail
    go_loopw [3, 4] (fun v i wr => ∃ (k : Nat) (B : Option Addr) (d : Nat), k + 1 ≤ p2 n ∧ i = .int .i64 ((k : Int) + 1) ∧ v = .slice B (maxK Q n k).length d ∧ OwnI wr w.heap.size B (maxK Q n k).length d (ints (maxK Q n k)) ∧ Blk wr w.heap.size 29 #[.int .i64 n, .slice A n c] ∧ Below w.heap.size w wr) (fun _ i _ => p2 n - (intOf i).toNat)
    case atStart => exact ⟨0, _, _, by omega, rfl, rfl, hown0.cast rfl rfl, hblk0, hw1⟩
    case round =>
      obtain ⟨k, B, d, hk, rfl, rfl, hown, hblk, hwr⟩ := hrel
      obtain ⟨wo, rfl⟩ : ∃ wo : World, wo = wr := ⟨_, rfl⟩
      have hml := maxK_len Q n k
      have hyb := hblk.two
      go_wp2_with fail
      refine (all_any n A c n _ hn7).mono ?_
      rintro e w2 ⟨rfl, hb2⟩
      have hw2 := Up.then_ hwr hb2
      replace hblk := hblk.up hb2
      replace hyb := hblk.two
      replace hown := hown.up hb2
      by_cases hlt : k + 1 < p2 n
      · have hs : k + 1 < 2 ^ n := hlt
        have hs7 := h.n7 hs
        have e1 : Hid (((k : Int) + 1) = ((k + 1 : Nat) : Int)) := (by omega : ((k : Int) + 1) = ((k + 1 : Nat) : Int))
        go_wp2_with fail
        rw [e1.out]
        refine (implClq_any A n c (k + 1) Q _ (hX.up hw2) h hs).mono ?_
        rintro e w3 ⟨rfl, hb3⟩
        have hw3 := Up.then_ hw2 hb3
        replace hblk := hblk.up hb3
        replace hyb := hblk.two
        replace hown := hown.up hb3
        obtain ⟨S, hS⟩ : ∃ S : Nat, S = k + 1 := ⟨_, rfl⟩
        rw [← hS] at hs hs7
        rw [← hS]
        have HS := Lib.hid hS
        clear hS
        go_wp2_with fail
        go_loopw [5, 25] (fun q i wr => ∃ v : Nat, v ≤ n ∧ i = .int .i64 v ∧ q = .bool (clq Q S && standsK Q S v) ∧ Below w3.heap.size w3 wr) (fun _ i _ => n - (intOf i).toNat)
        case atStart => exact ⟨0, Nat.zero_le _, rfl, by rw [standsK, Bool.and_true], Below.refl _ _⟩
        case round =>
          obtain ⟨v, hv, rfl, rfl, hb4⟩ := hrel
          have hw4 := Up.then_ hw3 hb4
          have hblk4 := hblk.up hb4
          have hown4 := hown.up hb4
          by_cases hvt : v < n
          · obtain ⟨a, rfl, hca⟩ := (hX.up hw4).nb_at hvt
            rcases Bool.eq_false_or_eq_true (clq Q S && standsK Q S v) with e2 | e2
            · obtain ⟨e3, e4⟩ := (Bool.and_eq_true _ _).mp e2 |> fun hh => hh
              have H3 := Lib.hid e3
              have H4 := Lib.hid e4
              rw [e2]
              clear e2 e3 e4
              rcases Bool.eq_false_or_eq_true (S.testBit v) with e5 | e5
              · have H5 := Lib.hid e5
                have HK := Lib.hid (standsK_yes H4.out (stands_in e5))
                clear e5
                go_wp2_with (go_at_call 131; refine (has_eq (by omega) (by omega) H5.out).mono ?_; rintro e w' ⟨rfl, rfl⟩)
                go_roundw
                case rel => exact ⟨v + 1, by omega, by go_num, by rw [H3.out, HK.out]; rfl, hb4⟩
                case measure => simp [intOf]; omega
              · have H5 := Lib.hid e5
                have hand := i64_dif7 hs7 (h.nb7 v)
                have hst := stands_out (Q := Q) e5
                rcases Bool.eq_false_or_eq_true (dif S (nb Q v) != 0) with e6 | e6
                · have HK := Lib.hid (standsK_yes H4.out (hst.trans e6))
                  have hne : (((dif S (nb Q v) : Nat) : Int) != 0) = true := by
                    rw [bne_iff_ne] at e6 ⊢
                    omega
                  clear e5 e6 hst
                  go_wp2_with (go_at_call 131; refine (has_eq (by omega) (by omega) H5.out).mono ?_; rintro e w' ⟨rfl, rfl⟩)
                  go_roundw
                  case rel => exact ⟨v + 1, by omega, by go_num, by rw [H3.out, HK.out]; rfl, hb4⟩
                  case measure => simp [intOf]; omega
                · have HK := Lib.hid (standsK_no (hst.trans e6))
                  have hne : dif S (nb Q v) = 0 := by simpa using e6
                  rw [hne] at hand
                  clear e5 e6 hst hne
                  go_wp2_with (go_at_call 131; refine (has_eq (by omega) (by omega) H5.out).mono ?_; rintro e w' ⟨rfl, rfl⟩)
                  go_roundw
                  case rel => exact ⟨v + 1, by omega, by go_num, by rw [HK.out, Bool.and_false], hb4⟩
                  case measure => simp [intOf]; omega
            · have HK := Lib.hid (show (clq Q S && standsK Q S (v + 1)) = false by
                rcases Bool.eq_false_or_eq_true (clq Q S) with e3 | e3
                · rw [e3] at e2; rw [standsK_off (by simpa using e2), Bool.and_false]
                · rw [e3]; rfl)
              rw [e2]
              clear e2
              go_wp2
              go_roundw
              case rel => exact ⟨v + 1, by omega, by go_num, by rw [HK.out], hb4⟩
              case measure => simp [intOf]; omega
          · obtain rfl : v = n := by omega
            have hsz := hw4.size
            have hcell := (Blk.new wr 3 #[.int .i64 (S : Int)]).one
            rcases Bool.eq_false_or_eq_true (clq Q S && standsK Q S v) with e2 | e2
            · have HM := Lib.hid (maxK_yes (show maxi Q v (k + 1) = true by rw [← HS.out]; exact e2))
              rw [e2]
              clear e2
              go_wp2_with (at_builtin; refine wpList_push rfl (.tmp 44) (.tmp 46) rfl (S : Int) rfl (hown4.alloc _) ⟨wr.heap.size, 0, none⟩ rfl hcell (by omega) (by simp; omega) ?_; intro A' c' w5 hown5 hb5 hg5)
              go_roundw
              case rel => exact ⟨k + 1, A', c', by omega, by rw [← HS.out], by rw [HM.out, ← push_len], hown5.cast (by rw [HM.out, ← push_len]) (by rw [HM.out, ← HS.out, ints_snoc]), (hown4.alloc _).keeps hg5 (hblk4.alloc _) (by decide), (hw4.alloc hsz _).trans hb5⟩
              case measure => have := HS.out; simp [intOf]; omega
            · have HM := Lib.hid (maxK_no (show maxi Q v (k + 1) = false by rw [← HS.out]; exact e2))
              rw [e2]
              clear e2
              go_wp2
              go_roundw
              case rel => exact ⟨k + 1, B, d, by omega, by rw [← HS.out], by rw [HM.out], hown4.cast (by rw [HM.out]) (by rw [HM.out]), hblk4, hw4⟩
              case measure => have := HS.out; simp [intOf]; omega
      · obtain rfl : k = p2 n - 1 := by omega
        go_wp2
        go_ret
        exact givesI_of (l := maxCliques Q n) hown hw2
end Go.Proofs.YthncdjcmlpiebaaGreatDoor
namespace Go.Proofs.YthncdjcmlpiebaaGreatDoor
open Go.RowKit
set_option maxRecDepth 100000 in
set_option maxHeartbeats 2000000 in
theorem specMaximalCliques_any (N : Int) (A : Option Addr) (n c : Nat) (X : List Int) (w : World) (hX : RI w A n X) (hn : n ≤ 9223372036854775807) :
    Calls Tryz.prog 82 #[.agg #[.int .i64 N, .slice A n c]] w (GivesI (ints (maxCliquesOf N X)) w) := by
  rcases isGraph_cases N X with hg | ⟨k, Q, rfl, rfl, h⟩
  · have Hg := Lib.hid hg
    rw [maxCliquesOf_no hg]
    clear hg
    have hown0 : OwnI ((w.alloc (.cells #[.int .i64 N, .slice A n c] 29)).alloc (.cells #[] 3)) w.heap.size (some ⟨w.heap.size + 1, 0, none⟩) 0 0 [] := by
      have hh := OwnI.made (base := w.heap.size) (w.alloc (.cells #[.int .i64 N, .slice A n c] 29)) (by simp)
      have e : (w.alloc (.cells #[.int .i64 N, .slice A n c] 29)).heap.size = w.heap.size + 1 := by simp
      rw [e] at hh
      exact hh
    go_enter Tryz.func82, Tryz.ntmps82
    go_wp2_with fail
    refine wp_loop_rounds 1 ?_
    rw [rounds_succ]
    go_wp2_with fail
    refine (specIsGraph_is (hX.up (by go_grown)) hn Hg.out).mono ?_
    rintro e w1 ⟨rfl, hb1⟩
    have hw1 : Below w.heap.size w w1 := Up.then_ (by go_grown) hb1
    replace hown0 := hown0.up hb1
    go_wp2
    go_ret
    exact givesI_of (l := []) (hown0.cast rfl rfl) hw1
  · obtain rfl : n = k := by rw [← hX.1, ints_len, h.len]
    rw [maxCliquesOf_ok h]
    have hn7 := h.le
    have hp1 := p2_le hn7
    have hp2 := p2_pos n
    have hp := shl_p2 (k := n) (by omega)
    have hown0 : OwnI ((w.alloc (.cells #[.int .i64 n, .slice A n c] 29)).alloc (.cells #[] 3)) w.heap.size (some ⟨w.heap.size + 1, 0, none⟩) 0 0 [] := by
      have hh := OwnI.made (base := w.heap.size) (w.alloc (.cells #[.int .i64 n, .slice A n c] 29)) (by simp)
      have e : (w.alloc (.cells #[.int .i64 n, .slice A n c] 29)).heap.size = w.heap.size + 1 := by simp
      rw [e] at hh
      exact hh
    go_enter Tryz.func82, Tryz.ntmps82
    go_wp2_with fail
    go_loopw [3, 4] (fun v i wr => ∃ (k : Nat) (B : Option Addr) (d : Nat), k + 1 ≤ p2 n ∧ i = .int .i64 ((k : Int) + 1) ∧ v = .slice B (maxK Q n k).length d ∧ OwnI wr w.heap.size B (maxK Q n k).length d (ints (maxK Q n k)) ∧ Blk wr w.heap.size 29 #[.int .i64 n, .slice A n c] ∧ Below w.heap.size w wr) (fun _ i _ => p2 n - (intOf i).toNat)
    case atStart => exact ⟨0, _, _, by omega, rfl, rfl, hown0.cast rfl rfl, (Blk.new w 29 #[.int .i64 n, .slice A n c]).alloc _, by go_grown⟩
    case round =>
      obtain ⟨k, B, d, hk, rfl, rfl, hown, hblk, hwr⟩ := hrel
      obtain ⟨wo, rfl⟩ : ∃ wo : World, wo = wr := ⟨_, rfl⟩
      have hml := maxK_len Q n k
      have hyb := hblk.two
      go_wp2_with fail
      refine (specIsGraph_is (hX.up hwr) hn h.is).mono ?_
      rintro e w2 ⟨rfl, hb2⟩
      have hw2 := Up.then_ hwr hb2
      replace hblk := hblk.up hb2
      replace hyb := hblk.two
      replace hown := hown.up hb2
      by_cases hlt : k + 1 < p2 n
      · have hs : k + 1 < 2 ^ n := hlt
        have hs7 := h.n7 hs
        have e1 : Hid (((k : Int) + 1) = ((k + 1 : Nat) : Int)) := (by omega : ((k : Int) + 1) = ((k + 1 : Nat) : Int))
        go_wp2_with fail
        rw [e1.out]
        refine (specIsClique_ok (s := k + 1) (hX.up hw2) h hs).mono ?_
        rintro e w3 ⟨rfl, hb3⟩
        have hw3 := Up.then_ hw2 hb3
        replace hblk := hblk.up hb3
        replace hyb := hblk.two
        replace hown := hown.up hb3
        obtain ⟨S, hS⟩ : ∃ S : Nat, S = k + 1 := ⟨_, rfl⟩
        rw [← hS] at hs hs7
        rw [← hS]
        have HS := Lib.hid hS
        have hSp : S < p2 n := by omega
        have hdec : decide (S < p2 n) = true := decide_eq_true hSp
        clear hS
        rcases Bool.eq_false_or_eq_true (clq Q S) with e3 | e3
        · have H3 := Lib.hid e3
          rw [e3]
          clear e3
          go_wp2_with fail
          go_loopw [5, 6] (fun q i wr => ∃ v : Nat, v ≤ n ∧ i = .int .i64 v ∧ q = .bool (standsK Q S v) ∧ Below w3.heap.size w3 wr) (fun _ i _ => n - (intOf i).toNat)
          case atStart => exact ⟨0, Nat.zero_le _, rfl, rfl, Below.refl _ _⟩
          case round =>
            obtain ⟨v, hv, rfl, rfl, hb4⟩ := hrel
            have hw4 := Up.then_ hw3 hb4
            have hblk4 := hblk.up hb4
            have hyb4 := hblk4.two
            have hown4 := hown.up hb4
            by_cases hvt : v < n
            · obtain ⟨a, rfl, hca⟩ := (hX.up hw4).nb_at hvt
              have hbit := bit_one S v (by omega)
              rcases Bool.eq_false_or_eq_true (standsK Q S v) with e2 | e2
              · have H2 := Lib.hid e2
                rw [e2]
                rcases Bool.eq_false_or_eq_true (S.testBit v) with e5 | e5
                · have HK := Lib.hid (standsK_yes e2 (stands_in e5))
                  rw [e5] at hbit
                  clear e2 e5
                  go_wp2
                  go_roundw
                  case rel => exact ⟨v + 1, by omega, by go_num, by rw [HK.out], hb4⟩
                  case measure => simp [intOf]; omega
                · have hand := i64_and7 (h.nb7 v) hs7
                  have hst := (stands_out (Q := Q) e5).trans dif_zero
                  rw [e5] at hbit
                  rcases Bool.eq_false_or_eq_true (nb Q v &&& S != S) with e6 | e6
                  · have HK := Lib.hid (standsK_yes e2 (hst.trans e6))
                    have hne : (((nb Q v &&& S : Nat) : Int) != (S : Int)) = true := by
                      rw [bne_iff_ne] at e6 ⊢
                      omega
                    clear e2 e5 e6 hst
                    go_wp2
                    go_roundw
                    case rel => exact ⟨v + 1, by omega, by go_num, by rw [HK.out], hb4⟩
                    case measure => simp [intOf]; omega
                  · have HK := Lib.hid (standsK_no (hst.trans e6))
                    have hne : nb Q v &&& S = S := by simpa using e6
                    rw [hne] at hand
                    clear e2 e5 e6 hst hne
                    go_wp2
                    go_roundw
                    case rel => exact ⟨v + 1, by omega, by go_num, by rw [HK.out], hb4⟩
                    case measure => simp [intOf]; omega
              · have HK := Lib.hid (standsK_off e2)
                rw [e2]
                clear e2
                go_wp2
                go_roundw
                case rel => exact ⟨v + 1, by omega, by go_num, by rw [HK.out], hb4⟩
                case measure => simp [intOf]; omega
            · obtain rfl : v = n := by omega
              have hsz := hw4.size
              have hcell := (Blk.new wr 3 #[.int .i64 (S : Int)]).one
              rcases Bool.eq_false_or_eq_true (standsK Q S v) with e2 | e2
              · have HM := Lib.hid (maxK_yes (show maxi Q v (k + 1) = true by rw [← HS.out, maxi_yes H3.out]; exact e2))
                rw [e2]
                clear e2
                go_wp2_with (at_builtin; refine wpList_push rfl (.tmp 49) (.tmp 51) rfl (S : Int) rfl (hown4.alloc _) ⟨wr.heap.size, 0, none⟩ rfl hcell (by omega) (by simp; omega) ?_; intro A' c' w5 hown5 hb5 hg5)
                go_roundw
                case rel => exact ⟨k + 1, A', c', by omega, by rw [← HS.out]; try go_num, by rw [HM.out, ← push_len], hown5.cast (by rw [HM.out, ← push_len]) (by rw [HM.out, ← HS.out, ints_snoc]), (hown4.alloc _).keeps hg5 (hblk4.alloc _) (by decide), (hw4.alloc hsz _).trans hb5⟩
                case measure => have := HS.out; simp [intOf]; omega
              · have HM := Lib.hid (maxK_no (show maxi Q v (k + 1) = false by rw [← HS.out, maxi_yes H3.out]; exact e2))
                rw [e2]
                clear e2
                go_wp2
                go_roundw
                case rel => exact ⟨k + 1, B, d, by omega, by rw [← HS.out]; try go_num, by rw [HM.out], hown4.cast (by rw [HM.out]) (by rw [HM.out]), hblk4, hw4⟩
                case measure => have := HS.out; simp [intOf]; omega
        · have HM := Lib.hid (maxK_no (show maxi Q n (k + 1) = false by rw [← HS.out]; exact maxi_no e3))
          rw [e3]
          clear e3
          go_wp2
          go_roundw
          case rel => exact ⟨k + 1, B, d, by omega, by rw [← HS.out]; try go_num, by rw [HM.out], hown.cast (by rw [HM.out]) (by rw [HM.out]), hblk, hw3⟩
          case measure => have := HS.out; simp [intOf]; omega
      · obtain rfl : k = p2 n - 1 := by omega
        have hend : ((p2 n - 1 : Nat) : Int) + 1 = (p2 n : Int) := by omega
        rw [hend]
        go_wp2
        go_ret
        exact givesI_of (l := maxCliques Q n) hown hw2
end Go.Proofs.YthncdjcmlpiebaaGreatDoor
