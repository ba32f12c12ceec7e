/- Walks of chapter 7: cliques, the largest sets, the maximal cliques. Walks of chapter 7, second part. Walks of chapter 7: colorings; an edge read by the reference. Walks of chapter 7: the maximal cliques. Walks of chapter 7: the reference's maximal cliques. -/
import Derived.Test.YthncdjcmlpiebaaW3A
namespace Go.Proofs.Ythncdjcmlpiebaa
open Go.RowKit

theorem clq_all {n s : Nat} {Q : List Nat} (hs : s < 2 ^ n) (h : ∀ v, v < n → s.testBit v = true → clqAt Q s v = true) : clq Q s = true := by
  rw [clq_iff]
  exact fun v _ hb => h v (bit_lt hs hb) hb
theorem clq_at_no {n s v : Nat} {Q : List Nat} (h7 : n ≤ 7) (hv : v < n) (hb : s.testBit v = true) (h : clqAt Q s v = false) : clq Q s = false := clq_false (mem_listOf.2 ⟨by omega, hb⟩) h
set_option maxHeartbeats 800000 in
theorem specIsClique_ok {A : Option Addr} {n c s : Nat} {Q : List Nat} {w : World} (hX : RI w A n (ints Q)) (h : GOk n Q) (hs : s < 2 ^ n) :
    Calls Try.prog 54 #[.agg #[.int .i64 n, .slice A n c], .int .i64 s] w fun e w' => e = .returned (.bool (clq Q s)) ∧ Below w.heap.size w w' := by
  have hn7 := h.le
  have hs7 := h.n7 hs
  go_enter Try.func54, Try.ntmps54
  go_wp2_with fail
  refine (specIsSet_ok (hX.up (by go_grown)) h hs).mono ?_
  rintro e w1 ⟨rfl, hb1⟩
  have hw1 : Below w.heap.size w w1 := Up.then_ (by go_grown) hb1
  obtain ⟨hc1, hf1⟩ := bcell hb1
  have hz1 := hb1.size
  try simp only [World.size_alloc] at hz1
  try simp only [World.size_setCell] at hz1
  try simp only [World.size_alloc] at hz1
  try simp only [World.size_drew] at hz1
  have hl1_0 : w.heap.size < w1.heap.size := by omega
  have hblk0 := (Blk.new w 26 #[.int .i64 n, .slice A n c]).up hb1
  clear hc1 hf1
  go_wp2_with fail
  go_loopw [5] (fun i wr => ∃ k : Nat, k ≤ n ∧ i = .int .i64 k ∧ Below w1.heap.size w1 wr ∧ Hid (∀ j, j < k → s.testBit j = true → clqAt Q s j = true)) (fun i _ => n - (intOf i).toNat)
  case atStart => exact ⟨0, Nat.zero_le _, rfl, Below.refl _ _, fun j h => absurd h (by omega)⟩
  case round =>
    obtain ⟨k, hk, rfl, hb, hall⟩ := hrel
    have hblk := hblk0.up hb
    have hwr := Up.then_ hw1 hb
    obtain ⟨hx0, hx1⟩ := hblk.two
    by_cases hlt : k < n
    · obtain ⟨a, rfl, hca⟩ := (hX.up hwr).nb_at hlt
      have hbit := bit_one s k (by omega)
      rcases Bool.eq_false_or_eq_true (s.testBit k) with e1 | e1
      · have H1 := Lib.hid e1
        rw [e1] at hbit
        clear e1
        have hand := i64_and7 (h.nb7 k) hs7
        have hsh := shl_p2 (k := k) (by omega)
        have hle : p2 k ≤ s := (sub_bit H1.out).1
        rcases Bool.eq_false_or_eq_true (clqAt Q s k) with e2 | e2
        · have H2 := Lib.hid e2
          have hne : (((nb Q k &&& s : Nat) : Int)) = (s : Int) - (p2 k : Int) := by
            rw [clqAt_ref h H1.out, beq_iff_eq] at e2
            have : s - 2 ^ k = s - p2 k := rfl
            omega
          rw [hne] at hand
          clear e2 hne
          go_wp2_with fail
          go_quiet (fail)
          go_wp2
          go_roundw
          case rel => exact ⟨k + 1, by omega, by go_num, below_drewN hb _, fun j hj => by
            rcases Nat.lt_succ_iff_lt_or_eq.1 hj with h' | rfl
            · exact hall.out j h'
            · exact fun _ => H2.out⟩
          case measure => simp [intOf]; omega
        · have Hno := Lib.hid (clq_at_no hn7 hlt H1.out e2)
          have hne : (((nb Q k &&& s : Nat) : Int) != (s : Int) - (p2 k : Int)) = true := by
            rw [clqAt_ref h H1.out, beq_eq_false_iff_ne] at e2
            rw [bne_iff_ne]
            have : s - 2 ^ k = s - p2 k := rfl
            omega
          clear e2
          go_wp2_with fail
          go_quiet (fail)
          go_wp2
          go_ret
          exact ⟨ret_bool Hno.out.symm, below_drewN hwr _⟩
      · have H1 := Lib.hid e1
        rw [e1] at hbit
        clear e1
        go_wp2_with fail
        go_quiet (fail)
        go_wp2
        go_roundw
        case rel => exact ⟨k + 1, by omega, by go_num, below_drewN hb _, fun j hj => by
          rcases Nat.lt_succ_iff_lt_or_eq.1 hj with h' | rfl
          · exact hall.out j h'
          · exact fun hh => absurd (H1.out.symm.trans hh) Bool.false_ne_true⟩
        case measure => simp [intOf]; omega
    · obtain rfl : k = n := by omega
      go_wp2
      go_ret
      exact ⟨ret_bool (clq_all hs hall.out).symm, hwr⟩
theorem indep_all {n s : Nat} {Q : List Nat} (hs : s < 2 ^ n) (h : ∀ v, v < n → s.testBit v = true → nb Q v &&& s = 0) : indep Q s = true := by
  rw [indep_iff]
  exact fun v _ hb => h v (bit_lt hs hb) hb
theorem indep_at_no {n s v : Nat} {Q : List Nat} (h7 : n ≤ 7) (hv : v < n) (hb : s.testBit v = true) (h : nb Q v &&& s ≠ 0) : indep Q s = false := by
  rw [← Bool.not_eq_true, indep_iff]
  exact fun e => h (e v (by omega) hb)
set_option maxHeartbeats 800000 in
theorem specIsIndependent_ok {A : Option Addr} {n c s : Nat} {Q : List Nat} {w : World} (hX : RI w A n (ints Q)) (h : GOk n Q) (hs : s < 2 ^ n) :
    Calls Try.prog 59 #[.agg #[.int .i64 n, .slice A n c], .int .i64 s] w fun e w' => e = .returned (.bool (indep Q s)) ∧ Below w.heap.size w w' := by
  have hn7 := h.le
  have hs7 := h.n7 hs
  go_enter Try.func59, Try.ntmps59
  go_wp2_with fail
  refine (specIsSet_ok (hX.up (by go_grown)) h hs).mono ?_
  rintro e w1 ⟨rfl, hb1⟩
  have hw1 : Below w.heap.size w w1 := Up.then_ (by go_grown) hb1
  obtain ⟨hc1, hf1⟩ := bcell hb1
  have hz1 := hb1.size
  try simp only [World.size_alloc] at hz1
  try simp only [World.size_setCell] at hz1
  try simp only [World.size_alloc] at hz1
  try simp only [World.size_drew] at hz1
  have hl1_0 : w.heap.size < w1.heap.size := by omega
  have hblk := (Blk.new w 26 #[.int .i64 n, .slice A n c]).up hb1
  obtain ⟨hx0, hx1⟩ := hblk.two
  clear hc1 hf1
  have hX1 := hX.up hw1
  go_wp2_with fail
  go_loop [5] (fun i => ∃ k : Nat, k ≤ n ∧ i = .int .i64 k ∧ Hid (∀ j, j < k → s.testBit j = true → nb Q j &&& s = 0)) (fun i => n - (intOf i).toNat)
  case atStart => exact ⟨0, Nat.zero_le _, rfl, fun j h => absurd h (by omega)⟩
  case round =>
    obtain ⟨k, hk, rfl, hall⟩ := hrel
    by_cases hlt : k < n
    · obtain ⟨a, rfl, hca⟩ := hX1.nb_at hlt
      have hbit := bit_one s k (by omega)
      rcases Bool.eq_false_or_eq_true (s.testBit k) with e1 | e1
      · have H1 := Lib.hid e1
        rw [e1] at hbit
        clear e1
        have hand := i64_and7 (h.nb7 k) hs7
        by_cases e2 : nb Q k &&& s = 0
        · have H2 := Lib.hid e2
          rw [e2] at hand
          clear e2
          go_wp2
          go_round
          case rel => exact ⟨k + 1, by omega, by go_num, fun j hj => by
            rcases Nat.lt_succ_iff_lt_or_eq.1 hj with h' | rfl
            · exact hall.out j h'
            · exact fun _ => H2.out⟩
          case measure => simp [intOf]; omega
        · have Hno := Lib.hid (indep_at_no hn7 hlt H1.out e2)
          have hne : (((nb Q k &&& s : Nat) : Int) != 0) = true := by rw [bne_iff_ne]; omega
          clear e2
          go_wp2
          go_ret
          exact ⟨ret_bool Hno.out.symm, hw1⟩
      · have H1 := Lib.hid e1
        rw [e1] at hbit
        clear e1
        go_wp2
        go_round
        case rel => exact ⟨k + 1, by omega, by go_num, fun j hj => by
          rcases Nat.lt_succ_iff_lt_or_eq.1 hj with h' | rfl
          · exact hall.out j h'
          · exact fun hh => absurd (H1.out.symm.trans hh) Bool.false_ne_true⟩
        case measure => simp [intOf]; omega
    · obtain rfl : k = n := by omega
      go_wp2
      go_ret
      exact ⟨ret_bool (indep_all hs hall.out).symm, hw1⟩
theorem isGraph_cases (N : Int) (X : List Int) : (isGraph N X = false) ∨ ∃ (k : Nat) (Q : List Nat), N = k ∧ X = ints Q ∧ GOk k Q := by
  rcases Bool.eq_false_or_eq_true (isGraph N X) with h | h
  · exact .inr (isGraph_ok h)
  · exact .inl h
/-- A number that a graph has: of the graph's data as they are. -/
def ofGraph (N : Int) (X : List Int) (z : Int) (f : Nat → List Nat → Int) : Int := if isGraph N X then f N.toNat (X.map Int.toNat) else z
theorem nats_ints (Q : List Nat) : (ints Q).map Int.toNat = Q := by simp [ints, List.map_map, Function.comp_def]
theorem ofGraph_ok {k : Nat} {Q : List Nat} (h : GOk k Q) (z : Int) (f : Nat → List Nat → Int) : ofGraph k (ints Q) z f = f k Q := by
  rw [ofGraph, if_pos h.is, nats_ints, Int.toNat_natCast]
theorem ofGraph_no {N : Int} {X : List Int} (h : isGraph N X = false) (z : Int) (f : Nat → List Nat → Int) : ofGraph N X z f = z := by rw [ofGraph, h]; rfl
def largestOf (P : List Nat → Nat → Bool) (n : Nat) (Q : List Nat) : Int := (bestK (P Q) (2 ^ n - 1) : Nat)
set_option maxHeartbeats 1600000 in
theorem implLargest_clq (N : Int) (A : Option Addr) (n c : Nat) (X : List Int) (w : World) (hX : RI w A n X) (hn : n ≤ 9223372036854775807) :
    Calls Try.prog 56 #[.agg #[.int .i64 N, .slice A n c], .func (.func 57) #[] #[]] w fun e w' => e = .returned (.int .i64 (ofGraph N X 0 (largestOf clq))) ∧ Below w.heap.size w w' := by
  have hXX := Lib.hid hX.1
  rcases isGraph_cases N X with hg | ⟨k, Q, rfl, rfl, h⟩
  · have Hg := Lib.hid hg
    have Hr := Lib.hid (ofGraph_no hg 0 (largestOf clq))
    clear hg
    go_enter Try.func56, Try.ntmps56
    go_wp2_with fail
    refine (implIsGraph_is (hX.up (by go_grown)) hn Hg.out).mono ?_
    rintro e w1 ⟨rfl, hb1⟩
    have hw1 : Below w.heap.size w w1 := Up.then_ (by go_grown) hb1
    obtain ⟨hc1, hf1⟩ := bcell hb1
    have hz1 := hb1.size
    try simp only [World.size_alloc] at hz1
    try simp only [World.size_setCell] at hz1
    try simp only [World.size_alloc] at hz1
    try simp only [World.size_drew] at hz1
    have hl1_0 : w.heap.size < w1.heap.size := by omega
    go_wp2
    go_ret
    exact ⟨ret_int Hr.out.symm, hw1⟩
  · obtain rfl : n = k := by rw [← hX.1, ints_len, h.len]
    have Hr := Lib.hid (ofGraph_ok h 0 (largestOf clq))
    have hn7 := h.le
    have hp1 := p2_le hn7
    have hp2 := p2_pos n
    go_enter Try.func56, Try.ntmps56
    go_wp2_with fail
    refine (implIsGraph_is (hX.up (by go_grown)) hn h.is).mono ?_
    rintro e w1 ⟨rfl, hb1⟩
    have hw1 : Below w.heap.size w w1 := Up.then_ (by go_grown) hb1
    obtain ⟨hc1, hf1⟩ := bcell hb1
    have hz1 := hb1.size
    try simp only [World.size_alloc] at hz1
    try simp only [World.size_setCell] at hz1
    try simp only [World.size_alloc] at hz1
    try simp only [World.size_drew] at hz1
    have hl1_0 : w.heap.size < w1.heap.size := by omega
    have hblk0 := (Blk.new w 26 #[.int .i64 n, .slice A n c]).up hb1
    clear hc1 hf1
    go_wp2_with fail
    go_loopw [5, 6] (fun v i wr => ∃ k : Nat, k + 1 ≤ p2 n ∧ i = .int .i64 ((k : Int) + 1) ∧ v = .int .i64 (bestK (clq Q) k) ∧ Below w1.heap.size w1 wr) (fun _ i _ => p2 n - (intOf i).toNat)
    case atStart => exact ⟨0, by omega, rfl, rfl, Below.refl _ _⟩
    case round =>
      obtain ⟨k, hk, rfl, rfl, hb⟩ := hrel
      have hblk := hblk0.up hb
      have hwr := Up.then_ hw1 hb
      have hyb := hblk.two
      have hbk := bestK_le (clq Q) k
      go_wp2_with fail
      refine (all_any n A c n _ hn7).mono ?_
      rintro e w2 ⟨rfl, hb2⟩
      have hw2 := Up.then_ hwr hb2
      replace hblk := hblk.up hb2
      replace hyb := hblk.two
      by_cases hlt : k + 1 < p2 n
      · have hs : k + 1 < 2 ^ n := hlt
        have e1 : Hid (((k : Int) + 1) = ((k + 1 : Nat) : Int)) := (by omega : ((k : Int) + 1) = ((k + 1 : Nat) : Int))
        go_wp2_with fail
        rw [e1.out]
        refine (implCountSet_any (k + 1) _ (by omega)).mono ?_
        rintro e w3 ⟨rfl, hb3⟩
        have hw3 := Up.then_ hw2 hb3
        replace hblk := hblk.up hb3
        replace hyb := hblk.two
        go_wp2_with fail
        refine (implCountSet_any (bestK (clq Q) k) _ (by omega)).mono ?_
        rintro e w4 ⟨rfl, hb4⟩
        have hw4 := Up.then_ hw3 hb4
        replace hblk := hblk.up hb4
        replace hyb := hblk.two
        have hX4 := hX.up hw4
        have hU : Below w1.heap.size w1 w4 := Up.then_ (Up.then_ (Up.then_ hb hb2) hb3) hb4
        by_cases hc : card (bestK (clq Q) k) < card (k + 1)
        · go_wp2_with fail
          rw [e1.out]
          refine (implIsClique_ok (s := k + 1) hX4 h hs).mono ?_
          rintro e w5 ⟨rfl, hb5⟩
          rcases Bool.eq_false_or_eq_true (clq Q (k + 1)) with e2 | e2
          · have HB := Lib.hid (bestK_yes hc e2)
            go_wp2
            go_roundw
            case rel => exact ⟨k + 1, by omega, by go_num, by rw [HB.out]; go_num, Up.then_ hU hb5⟩
            case measure => simp [intOf]; omega
          · have HB := Lib.hid (bestK_not (k := k) e2)
            go_wp2
            go_roundw
            case rel => exact ⟨k + 1, by omega, by go_num, by rw [HB.out], Up.then_ hU hb5⟩
            case measure => simp [intOf]; omega
        · have HB := Lib.hid (bestK_few (P := clq Q) hc)
          go_wp2
          go_roundw
          case rel => exact ⟨k + 1, by omega, by go_num, by rw [HB.out], hU⟩
          case measure => simp [intOf]; omega
      · have hkk : k = p2 n - 1 := by omega
        have Hk := Lib.hid hkk
        clear hkk
        go_wp2
        go_ret
        exact ⟨ret_int (by rw [Hr.out, largestOf, Hk.out]; rfl), hw2⟩
theorem implLargestClique_any (N : Int) (A : Option Addr) (n c : Nat) (X : List Int) (w : World) (hX : RI w A n X) (hn : n ≤ 9223372036854775807) :
    Calls Try.prog 12 #[.agg #[.int .i64 N, .slice A n c]] w fun e w' => e = .returned (.int .i64 (ofGraph N X 0 (largestOf clq))) ∧ Below w.heap.size w w' := by
  go_enter Try.func12, Try.ntmps12
  go_wp2_with fail
  refine (implLargest_clq N A n c X _ (hX.up (by go_grown)) hn).mono ?_
  rintro e w1 ⟨rfl, hb1⟩
  have hw1 : Below w.heap.size w w1 := Up.then_ (by go_grown) hb1
  obtain ⟨hc1, hf1⟩ := bcell hb1
  have hz1 := hb1.size
  try simp only [World.size_alloc] at hz1
  try simp only [World.size_setCell] at hz1
  try simp only [World.size_alloc] at hz1
  try simp only [World.size_drew] at hz1
  have hl1_0 : w.heap.size < w1.heap.size := by omega
  go_wp2
  go_ret
  exact ⟨rfl, hw1⟩
set_option maxHeartbeats 1600000 in
theorem implLargest_indep (N : Int) (A : Option Addr) (n c : Nat) (X : List Int) (w : World) (hX : RI w A n X) (hn : n ≤ 9223372036854775807) :
    Calls Try.prog 56 #[.agg #[.int .i64 N, .slice A n c], .func (.func 58) #[] #[]] w fun e w' => e = .returned (.int .i64 (ofGraph N X 0 (largestOf indep))) ∧ Below w.heap.size w w' := by
  have hXX := Lib.hid hX.1
  rcases isGraph_cases N X with hg | ⟨k, Q, rfl, rfl, h⟩
  · have Hg := Lib.hid hg
    have Hr := Lib.hid (ofGraph_no hg 0 (largestOf indep))
    clear hg
    go_enter Try.func56, Try.ntmps56
    go_wp2_with fail
    refine (implIsGraph_is (hX.up (by go_grown)) hn Hg.out).mono ?_
    rintro e w1 ⟨rfl, hb1⟩
    have hw1 : Below w.heap.size w w1 := Up.then_ (by go_grown) hb1
    obtain ⟨hc1, hf1⟩ := bcell hb1
    have hz1 := hb1.size
    try simp only [World.size_alloc] at hz1
    try simp only [World.size_setCell] at hz1
    try simp only [World.size_alloc] at hz1
    try simp only [World.size_drew] at hz1
    have hl1_0 : w.heap.size < w1.heap.size := by omega
    go_wp2
    go_ret
    exact ⟨ret_int Hr.out.symm, hw1⟩
  · obtain rfl : n = k := by rw [← hX.1, ints_len, h.len]
    have Hr := Lib.hid (ofGraph_ok h 0 (largestOf indep))
    have hn7 := h.le
    have hp1 := p2_le hn7
    have hp2 := p2_pos n
    go_enter Try.func56, Try.ntmps56
    go_wp2_with fail
    refine (implIsGraph_is (hX.up (by go_grown)) hn h.is).mono ?_
    rintro e w1 ⟨rfl, hb1⟩
    have hw1 : Below w.heap.size w w1 := Up.then_ (by go_grown) hb1
    obtain ⟨hc1, hf1⟩ := bcell hb1
    have hz1 := hb1.size
    try simp only [World.size_alloc] at hz1
    try simp only [World.size_setCell] at hz1
    try simp only [World.size_alloc] at hz1
    try simp only [World.size_drew] at hz1
    have hl1_0 : w.heap.size < w1.heap.size := by omega
    have hblk0 := (Blk.new w 26 #[.int .i64 n, .slice A n c]).up hb1
    clear hc1 hf1
    go_wp2_with fail
    go_loopw [5, 6] (fun v i wr => ∃ k : Nat, k + 1 ≤ p2 n ∧ i = .int .i64 ((k : Int) + 1) ∧ v = .int .i64 (bestK (indep Q) k) ∧ Below w1.heap.size w1 wr) (fun _ i _ => p2 n - (intOf i).toNat)
    case atStart => exact ⟨0, by omega, rfl, rfl, Below.refl _ _⟩
    case round =>
      obtain ⟨k, hk, rfl, rfl, hb⟩ := hrel
      have hblk := hblk0.up hb
      have hwr := Up.then_ hw1 hb
      have hyb := hblk.two
      have hbk := bestK_le (indep Q) k
      go_wp2_with fail
      refine (all_any n A c n _ hn7).mono ?_
      rintro e w2 ⟨rfl, hb2⟩
      have hw2 := Up.then_ hwr hb2
      replace hblk := hblk.up hb2
      replace hyb := hblk.two
      by_cases hlt : k + 1 < p2 n
      · have hs : k + 1 < 2 ^ n := hlt
        have e1 : Hid (((k : Int) + 1) = ((k + 1 : Nat) : Int)) := (by omega : ((k : Int) + 1) = ((k + 1 : Nat) : Int))
        go_wp2_with fail
        rw [e1.out]
        refine (implCountSet_any (k + 1) _ (by omega)).mono ?_
        rintro e w3 ⟨rfl, hb3⟩
        have hw3 := Up.then_ hw2 hb3
        replace hblk := hblk.up hb3
        replace hyb := hblk.two
        go_wp2_with fail
        refine (implCountSet_any (bestK (indep Q) k) _ (by omega)).mono ?_
        rintro e w4 ⟨rfl, hb4⟩
        have hw4 := Up.then_ hw3 hb4
        replace hblk := hblk.up hb4
        replace hyb := hblk.two
        have hX4 := hX.up hw4
        have hU : Below w1.heap.size w1 w4 := Up.then_ (Up.then_ (Up.then_ hb hb2) hb3) hb4
        by_cases hc : card (bestK (indep Q) k) < card (k + 1)
        · go_wp2_with fail
          rw [e1.out]
          refine (implIsIndependent_ok (s := k + 1) hX4 h hs).mono ?_
          rintro e w5 ⟨rfl, hb5⟩
          rcases Bool.eq_false_or_eq_true (indep Q (k + 1)) with e2 | e2
          · have HB := Lib.hid (bestK_yes hc e2)
            go_wp2
            go_roundw
            case rel => exact ⟨k + 1, by omega, by go_num, by rw [HB.out]; go_num, Up.then_ hU hb5⟩
            case measure => simp [intOf]; omega
          · have HB := Lib.hid (bestK_not (k := k) e2)
            go_wp2
            go_roundw
            case rel => exact ⟨k + 1, by omega, by go_num, by rw [HB.out], Up.then_ hU hb5⟩
            case measure => simp [intOf]; omega
        · have HB := Lib.hid (bestK_few (P := indep Q) hc)
          go_wp2
          go_roundw
          case rel => exact ⟨k + 1, by omega, by go_num, by rw [HB.out], hU⟩
          case measure => simp [intOf]; omega
      · have hkk : k = p2 n - 1 := by omega
        have Hk := Lib.hid hkk
        clear hkk
        go_wp2
        go_ret
        exact ⟨ret_int (by rw [Hr.out, largestOf, Hk.out]; rfl), hw2⟩
theorem implLargestIndependent_any (N : Int) (A : Option Addr) (n c : Nat) (X : List Int) (w : World) (hX : RI w A n X) (hn : n ≤ 9223372036854775807) :
    Calls Try.prog 14 #[.agg #[.int .i64 N, .slice A n c]] w fun e w' => e = .returned (.int .i64 (ofGraph N X 0 (largestOf indep))) ∧ Below w.heap.size w w' := by
  go_enter Try.func14, Try.ntmps14
  go_wp2_with fail
  refine (implLargest_indep N A n c X _ (hX.up (by go_grown)) hn).mono ?_
  rintro e w1 ⟨rfl, hb1⟩
  have hw1 : Below w.heap.size w w1 := Up.then_ (by go_grown) hb1
  obtain ⟨hc1, hf1⟩ := bcell hb1
  have hz1 := hb1.size
  try simp only [World.size_alloc] at hz1
  try simp only [World.size_setCell] at hz1
  try simp only [World.size_alloc] at hz1
  try simp only [World.size_drew] at hz1
  have hl1_0 : w.heap.size < w1.heap.size := by omega
  go_wp2
  go_ret
  exact ⟨rfl, hw1⟩
end Go.Proofs.Ythncdjcmlpiebaa
namespace Go.Proofs.Ythncdjcmlpiebaa
open Go.RowKit

set_option maxHeartbeats 1600000 in
theorem specLargestClique_any (N : Int) (A : Option Addr) (n c : Nat) (X : List Int) (w : World) (hX : RI w A n X) (hn : n ≤ 9223372036854775807) :
    Calls Try.prog 13 #[.agg #[.int .i64 N, .slice A n c]] w fun e w' => e = .returned (.int .i64 (ofGraph N X 0 (largestOf clq))) ∧ Below w.heap.size w w' := by
  rcases isGraph_cases N X with hg | ⟨k, Q, rfl, rfl, h⟩
  · have Hg := Lib.hid hg
    have Hr := Lib.hid (ofGraph_no hg 0 (largestOf clq))
    clear hg
    go_enter Try.func13, Try.ntmps13
    go_wp2_with fail
    refine wp_loop_rounds 1 ?_
    rw [rounds_succ]
    go_wp2_with fail
    refine (specIsGraph_is (hX.up (by go_grown)) hn Hg.out).mono ?_
    rintro e w1 ⟨rfl, hb1⟩
    have hw1 : Below w.heap.size w w1 := Up.then_ (by go_grown) hb1
    obtain ⟨hc1, hf1⟩ := bcell hb1
    have hz1 := hb1.size
    try simp only [World.size_alloc] at hz1
    try simp only [World.size_setCell] at hz1
    try simp only [World.size_alloc] at hz1
    try simp only [World.size_drew] at hz1
    have hl1_0 : w.heap.size < w1.heap.size := by omega
    go_wp2
    go_ret
    exact ⟨ret_int Hr.out.symm, hw1⟩
  · obtain rfl : n = k := by rw [← hX.1, ints_len, h.len]
    have Hr := Lib.hid (ofGraph_ok h 0 (largestOf clq))
    have hn7 := h.le
    have hsh := shl_p2 (k := n) (by omega)
    have hp1 := p2_le hn7
    have hp2 := p2_pos n
    go_enter Try.func13, Try.ntmps13
    go_wp2_with fail
    go_loopw [3, 4] (fun v i wr => ∃ k : Nat, k + 1 ≤ p2 n ∧ i = .int .i64 ((k : Int) + 1) ∧ v = .int .i64 (bestK (clq Q) k) ∧ Blk wr w.heap.size 26 #[.int .i64 n, .slice A n c] ∧ Below w.heap.size w wr) (fun _ i _ => p2 n - (intOf i).toNat)
    case atStart => exact ⟨0, by omega, rfl, rfl, Blk.new _ _ _, by go_grown⟩
    case round =>
      obtain ⟨k, hk, rfl, rfl, hblk, hwr⟩ := hrel
      have hyb := hblk.two
      have hbk := bestK_le (clq Q) k
      go_wp2_with fail
      refine (specIsGraph_is (hX.up hwr) hn h.is).mono ?_
      rintro e w2 ⟨rfl, hb2⟩
      have hw2 := Up.then_ hwr hb2
      replace hblk := hblk.up hb2
      replace hyb := hblk.two
      by_cases hlt : k + 1 < p2 n
      · have hs : k + 1 < 2 ^ n := hlt
        have e1 : Hid (((k : Int) + 1) = ((k + 1 : Nat) : Int)) := (by omega : ((k : Int) + 1) = ((k + 1 : Nat) : Int))
        go_wp2_with fail
        rw [e1.out]
        refine (specCountSet_any (k + 1) _ (by omega)).mono ?_
        rintro e w3 ⟨rfl, hb3⟩
        have hw3 := Up.then_ hw2 hb3
        replace hblk := hblk.up hb3
        replace hyb := hblk.two
        go_wp2_with fail
        refine (specCountSet_any (bestK (clq Q) k) _ (by omega)).mono ?_
        rintro e w4 ⟨rfl, hb4⟩
        have hw4 := Up.then_ hw3 hb4
        replace hblk := hblk.up hb4
        replace hyb := hblk.two
        have hX4 := hX.up hw4
        by_cases hc : card (bestK (clq Q) k) < card (k + 1)
        · go_wp2_with fail
          rw [e1.out]
          refine (specIsClique_ok (s := k + 1) hX4 h hs).mono ?_
          rintro e w5 ⟨rfl, hb5⟩
          replace hblk := hblk.up hb5
          have hw5 := Up.then_ hw4 hb5
          rcases Bool.eq_false_or_eq_true (clq Q (k + 1)) with e2 | e2
          · have HB := Lib.hid (bestK_yes hc e2)
            go_wp2
            go_roundw
            case rel => exact ⟨k + 1, by omega, by go_num, by rw [HB.out]; go_num, hblk, hw5⟩
            case measure => simp [intOf]; omega
          · have HB := Lib.hid (bestK_not (k := k) e2)
            go_wp2
            go_roundw
            case rel => exact ⟨k + 1, by omega, by go_num, by rw [HB.out], hblk, hw5⟩
            case measure => simp [intOf]; omega
        · have HB := Lib.hid (bestK_few (P := clq Q) hc)
          go_wp2
          go_roundw
          case rel => exact ⟨k + 1, by omega, by go_num, by rw [HB.out], hblk, hw4⟩
          case measure => simp [intOf]; omega
      · have hkk : k = p2 n - 1 := by omega
        have Hk := Lib.hid hkk
        clear hkk
        go_wp2
        go_ret
        exact ⟨ret_int (by rw [Hr.out, largestOf, Hk.out]; rfl), hw2⟩
set_option maxHeartbeats 1600000 in
theorem specLargestIndependent_any (N : Int) (A : Option Addr) (n c : Nat) (X : List Int) (w : World) (hX : RI w A n X) (hn : n ≤ 9223372036854775807) :
    Calls Try.prog 15 #[.agg #[.int .i64 N, .slice A n c]] w fun e w' => e = .returned (.int .i64 (ofGraph N X 0 (largestOf indep))) ∧ Below w.heap.size w w' := by
  rcases isGraph_cases N X with hg | ⟨k, Q, rfl, rfl, h⟩
  · have Hg := Lib.hid hg
    have Hr := Lib.hid (ofGraph_no hg 0 (largestOf indep))
    clear hg
    go_enter Try.func15, Try.ntmps15
    go_wp2_with fail
    refine wp_loop_rounds 1 ?_
    rw [rounds_succ]
    go_wp2_with fail
    refine (specIsGraph_is (hX.up (by go_grown)) hn Hg.out).mono ?_
    rintro e w1 ⟨rfl, hb1⟩
    have hw1 : Below w.heap.size w w1 := Up.then_ (by go_grown) hb1
    obtain ⟨hc1, hf1⟩ := bcell hb1
    have hz1 := hb1.size
    try simp only [World.size_alloc] at hz1
    try simp only [World.size_setCell] at hz1
    try simp only [World.size_alloc] at hz1
    try simp only [World.size_drew] at hz1
    have hl1_0 : w.heap.size < w1.heap.size := by omega
    go_wp2
    go_ret
    exact ⟨ret_int Hr.out.symm, hw1⟩
  · obtain rfl : n = k := by rw [← hX.1, ints_len, h.len]
    have Hr := Lib.hid (ofGraph_ok h 0 (largestOf indep))
    have hn7 := h.le
    have hsh := shl_p2 (k := n) (by omega)
    have hp1 := p2_le hn7
    have hp2 := p2_pos n
    go_enter Try.func15, Try.ntmps15
    go_wp2_with fail
    go_loopw [3, 4] (fun v i wr => ∃ k : Nat, k + 1 ≤ p2 n ∧ i = .int .i64 ((k : Int) + 1) ∧ v = .int .i64 (bestK (indep Q) k) ∧ Blk wr w.heap.size 26 #[.int .i64 n, .slice A n c] ∧ Below w.heap.size w wr) (fun _ i _ => p2 n - (intOf i).toNat)
    case atStart => exact ⟨0, by omega, rfl, rfl, Blk.new _ _ _, by go_grown⟩
    case round =>
      obtain ⟨k, hk, rfl, rfl, hblk, hwr⟩ := hrel
      have hyb := hblk.two
      have hbk := bestK_le (indep Q) k
      go_wp2_with fail
      refine (specIsGraph_is (hX.up hwr) hn h.is).mono ?_
      rintro e w2 ⟨rfl, hb2⟩
      have hw2 := Up.then_ hwr hb2
      replace hblk := hblk.up hb2
      replace hyb := hblk.two
      by_cases hlt : k + 1 < p2 n
      · have hs : k + 1 < 2 ^ n := hlt
        have e1 : Hid (((k : Int) + 1) = ((k + 1 : Nat) : Int)) := (by omega : ((k : Int) + 1) = ((k + 1 : Nat) : Int))
        go_wp2_with fail
        rw [e1.out]
        refine (specCountSet_any (k + 1) _ (by omega)).mono ?_
        rintro e w3 ⟨rfl, hb3⟩
        have hw3 := Up.then_ hw2 hb3
        replace hblk := hblk.up hb3
        replace hyb := hblk.two
        go_wp2_with fail
        refine (specCountSet_any (bestK (indep Q) k) _ (by omega)).mono ?_
        rintro e w4 ⟨rfl, hb4⟩
        have hw4 := Up.then_ hw3 hb4
        replace hblk := hblk.up hb4
        replace hyb := hblk.two
        have hX4 := hX.up hw4
        by_cases hc : card (bestK (indep Q) k) < card (k + 1)
        · go_wp2_with fail
          rw [e1.out]
          refine (specIsIndependent_ok (s := k + 1) hX4 h hs).mono ?_
          rintro e w5 ⟨rfl, hb5⟩
          replace hblk := hblk.up hb5
          have hw5 := Up.then_ hw4 hb5
          rcases Bool.eq_false_or_eq_true (indep Q (k + 1)) with e2 | e2
          · have HB := Lib.hid (bestK_yes hc e2)
            go_wp2
            go_roundw
            case rel => exact ⟨k + 1, by omega, by go_num, by rw [HB.out]; go_num, hblk, hw5⟩
            case measure => simp [intOf]; omega
          · have HB := Lib.hid (bestK_not (k := k) e2)
            go_wp2
            go_roundw
            case rel => exact ⟨k + 1, by omega, by go_num, by rw [HB.out], hblk, hw5⟩
            case measure => simp [intOf]; omega
        · have HB := Lib.hid (bestK_few (P := indep Q) hc)
          go_wp2
          go_roundw
          case rel => exact ⟨k + 1, by omega, by go_num, by rw [HB.out], hblk, hw4⟩
          case measure => simp [intOf]; omega
      · have hkk : k = p2 n - 1 := by omega
        have Hk := Lib.hid hkk
        clear hkk
        go_wp2
        go_ret
        exact ⟨ret_int (by rw [Hr.out, largestOf, Hk.out]; rfl), hw2⟩
def cliqueNumber (n : Nat) (Q : List Nat) : Int := (card (bestK (clq Q) (2 ^ n - 1)) : Nat)
theorem bestK_128 {P : Nat → Bool} {n : Nat} (h7 : n ≤ 7) : bestK P (2 ^ n - 1) < 128 := by
  have h1 := bestK_le P (2 ^ n - 1)
  have h2 := pow_le7 h7
  have h3 := Nat.two_pow_pos n
  omega
theorem implCliqueNumber_any (N : Int) (A : Option Addr) (n c : Nat) (X : List Int) (w : World) (hX : RI w A n X) (hn : n ≤ 9223372036854775807) :
    Calls Try.prog 8 #[.agg #[.int .i64 N, .slice A n c]] w fun e w' => e = .returned (.int .i64 (ofGraph N X (-1) cliqueNumber)) ∧ Below w.heap.size w w' := by
  rcases isGraph_cases N X with hg | ⟨k, Q, rfl, rfl, h⟩
  · have Hg := Lib.hid hg
    have Hr := Lib.hid (ofGraph_no hg (-1) cliqueNumber)
    clear hg
    go_enter Try.func8, Try.ntmps8
    go_wp2_with fail
    refine (implIsGraph_is (hX.up (by go_grown)) hn Hg.out).mono ?_
    rintro e w1 ⟨rfl, hb1⟩
    have hw1 : Below w.heap.size w w1 := Up.then_ (by go_grown) hb1
    obtain ⟨hc1, hf1⟩ := bcell hb1
    have hz1 := hb1.size
    try simp only [World.size_alloc] at hz1
    try simp only [World.size_setCell] at hz1
    try simp only [World.size_alloc] at hz1
    try simp only [World.size_drew] at hz1
    have hl1_0 : w.heap.size < w1.heap.size := by omega
    go_wp2
    go_ret
    exact ⟨ret_int Hr.out.symm, hw1⟩
  · obtain rfl : n = k := by rw [← hX.1, ints_len, h.len]
    have Hr := Lib.hid (ofGraph_ok h (-1) cliqueNumber)
    have Hl := Lib.hid (ofGraph_ok h 0 (largestOf clq))
    go_enter Try.func8, Try.ntmps8
    go_wp2_with fail
    refine (implIsGraph_is (hX.up (by go_grown)) hn h.is).mono ?_
    rintro e w1 ⟨rfl, hb1⟩
    have hw1 : Below w.heap.size w w1 := Up.then_ (by go_grown) hb1
    obtain ⟨hc1, hf1⟩ := bcell hb1
    have hz1 := hb1.size
    try simp only [World.size_alloc] at hz1
    try simp only [World.size_setCell] at hz1
    try simp only [World.size_alloc] at hz1
    try simp only [World.size_drew] at hz1
    have hl1_0 : w.heap.size < w1.heap.size := by omega
    go_wp2_with fail
    refine (implLargestClique_any _ A n c _ _ (hX.up (by go_grown)) hn).mono ?_
    rintro e w2 ⟨rfl, hb2⟩
    have hw2 : Below w.heap.size w w2 := Up.then_ (by go_grown) hb2
    obtain ⟨hc2, hf2⟩ := bcell hb2
    have hz2 := hb2.size
    try simp only [World.size_alloc] at hz2
    try simp only [World.size_setCell] at hz2
    try simp only [World.size_alloc] at hz2
    try simp only [World.size_drew] at hz2
    have hl2_0 : w.heap.size < w2.heap.size := by omega
    go_wp2_with fail
    rw [Hl.out]
    refine (implCountSet_any (bestK (clq Q) (2 ^ n - 1)) _ (bestK_128 h.le)).mono ?_
    rintro e w3 ⟨rfl, hb3⟩
    go_wp2
    go_ret
    exact ⟨ret_int Hr.out.symm, Up.then_ hw2 hb3⟩
theorem specCliqueNumber_any (N : Int) (A : Option Addr) (n c : Nat) (X : List Int) (w : World) (hX : RI w A n X) (hn : n ≤ 9223372036854775807) :
    Calls Try.prog 11 #[.agg #[.int .i64 N, .slice A n c]] w fun e w' => e = .returned (.int .i64 (ofGraph N X (-1) cliqueNumber)) ∧ Below w.heap.size w w' := by
  rcases isGraph_cases N X with hg | ⟨k, Q, rfl, rfl, h⟩
  · have Hg := Lib.hid hg
    have Hr := Lib.hid (ofGraph_no hg (-1) cliqueNumber)
    clear hg
    go_enter Try.func11, Try.ntmps11
    go_wp2_with fail
    refine (specIsGraph_is (hX.up (by go_grown)) hn Hg.out).mono ?_
    rintro e w1 ⟨rfl, hb1⟩
    have hw1 : Below w.heap.size w w1 := Up.then_ (by go_grown) hb1
    obtain ⟨hc1, hf1⟩ := bcell hb1
    have hz1 := hb1.size
    try simp only [World.size_alloc] at hz1
    try simp only [World.size_setCell] at hz1
    try simp only [World.size_alloc] at hz1
    try simp only [World.size_drew] at hz1
    have hl1_0 : w.heap.size < w1.heap.size := by omega
    go_wp2
    go_ret
    exact ⟨ret_int Hr.out.symm, hw1⟩
  · obtain rfl : n = k := by rw [← hX.1, ints_len, h.len]
    have Hr := Lib.hid (ofGraph_ok h (-1) cliqueNumber)
    have Hl := Lib.hid (ofGraph_ok h 0 (largestOf clq))
    go_enter Try.func11, Try.ntmps11
    go_wp2_with fail
    refine (specIsGraph_is (hX.up (by go_grown)) hn h.is).mono ?_
    rintro e w1 ⟨rfl, hb1⟩
    have hw1 : Below w.heap.size w w1 := Up.then_ (by go_grown) hb1
    obtain ⟨hc1, hf1⟩ := bcell hb1
    have hz1 := hb1.size
    try simp only [World.size_alloc] at hz1
    try simp only [World.size_setCell] at hz1
    try simp only [World.size_alloc] at hz1
    try simp only [World.size_drew] at hz1
    have hl1_0 : w.heap.size < w1.heap.size := by omega
    go_wp2_with fail
    refine (specLargestClique_any _ A n c _ _ (hX.up (by go_grown)) hn).mono ?_
    rintro e w2 ⟨rfl, hb2⟩
    have hw2 : Below w.heap.size w w2 := Up.then_ (by go_grown) hb2
    obtain ⟨hc2, hf2⟩ := bcell hb2
    have hz2 := hb2.size
    try simp only [World.size_alloc] at hz2
    try simp only [World.size_setCell] at hz2
    try simp only [World.size_alloc] at hz2
    try simp only [World.size_drew] at hz2
    have hl2_0 : w.heap.size < w2.heap.size := by omega
    go_wp2_with fail
    rw [Hl.out]
    refine (specCountSet_any (bestK (clq Q) (2 ^ n - 1)) _ (bestK_128 h.le)).mono ?_
    rintro e w3 ⟨rfl, hb3⟩
    go_wp2
    go_ret
    exact ⟨ret_int Hr.out.symm, Up.then_ hw2 hb3⟩
end Go.Proofs.Ythncdjcmlpiebaa
namespace Go.Proofs.Ythncdjcmlpiebaa
open Go.RowKit

def colPair (Q : List Nat) (C : List Int) (v x : Nat) : Bool := (nb Q v).testBit x && (C.getD x 0 == C.getD v 0)
def coloring (n : Nat) (Q : List Nat) (C : List Int) : Bool :=
  decide (∀ v, v < n → (0 ≤ C.getD v 0 ∧ C.getD v 0 ≤ 6) ∧ ∀ x, x < v → colPair Q C v x = false)
def isColoring (N : Int) (X C : List Int) : Bool := isGraph N X && (decide (C.length = X.length) && coloring X.length (X.map Int.toNat) C)
theorem isColoring_no {N : Int} {X C : List Int} (h : isGraph N X = false) : isColoring N X C = false := by rw [isColoring, h]; rfl
theorem isColoring_len {N : Int} {X C : List Int} (h : C.length ≠ X.length) : isColoring N X C = false := by
  rw [isColoring, decide_eq_false h]; simp
theorem nats_of (Q : List Nat) : (ints Q).map Int.toNat = Q := by simp [ints, List.map_map, Function.comp_def]
theorem isColoring_ok {n : Nat} {Q : List Nat} {C : List Int} (h : GOk n Q) (hl : C.length = n) : isColoring n (ints Q) C = coloring n Q C := by
  rw [isColoring, h.is, nats_of, ints_len, h.len, hl]; simp
theorem coloring_all {n : Nat} {Q : List Nat} {C : List Int} (h : ∀ v, v < n → (0 ≤ C.getD v 0 ∧ C.getD v 0 ≤ 6) ∧ ∀ x, x < v → colPair Q C v x = false) : coloring n Q C = true := decide_eq_true h
theorem coloring_out {n v : Nat} {Q : List Nat} {C : List Int} (hv : v < n) (h : ¬ (0 ≤ C.getD v 0 ∧ C.getD v 0 ≤ 6)) : coloring n Q C = false := decide_eq_false fun k => h (k v hv).1
theorem coloring_pair {n v x : Nat} {Q : List Nat} {C : List Int} (hv : v < n) (hx : x < v) (h : colPair Q C v x = true) : coloring n Q C = false :=
  decide_eq_false fun k => by have := (k v hv).2 x hx; rw [h] at this; cases this

theorem upk3 {w w' : World} (h : Up w w') {b : Addr} {j k : Nat} {u v : Value} (hl : b.block < w.heap.size) (hu : w.cell? (b.add k) = some u) (hv : w.cell? (b.add j) = some v) :
    Up w w' ∧ (∀ b o, b < w.heap.size → w'.cell? ⟨b, o, none⟩ = w.cell? ⟨b, o, none⟩) ∧ w'.cell? (b.add k) = some u ∧ w'.cell? (b.add j) = some v :=
  ⟨h, fun _ _ hb => h.cell hb, (h.cell (by rw [block_of_add]; exact hl)).trans hu, (h.cell (by rw [block_of_add]; exact hl)).trans hv⟩
theorem l2Edge_is {N : Int} {A : Option Addr} {n c v x : Nat} {Q : List Nat} {w : World} {b : Bool} (hX : RI w A n (ints Q)) (h : GOk n Q) (hv : v < n) (hx : x < n) (hb : (nb Q v).testBit x = b) :
    Calls Try.prog 69 #[.agg #[.int .i64 N, .slice A n c], .int .i64 v, .int .i64 x] w fun e w' => e = .returned (.bool b) ∧ Below w.heap.size w w' := by
  subst hb
  have hn7 := h.le
  obtain ⟨a, rfl, hca⟩ := hX.nb_after hv
  have hr := h.nb7 v
  have hbit := bit_one (nb Q v) x (by omega)
  go_enter Try.func69, Try.ntmps69
  go_wp2
  go_ret
  exact ⟨rfl, by go_grown⟩

set_option maxHeartbeats 2000000 in
theorem implIsColoring_any (N : Int) (A B : Option Addr) (n m c d : Nat) (X C : List Int) (w : World) (hX : RI w A n X) (hC : RI w B m C) (hn : n ≤ 9223372036854775807) (hm : m ≤ 9223372036854775807) :
    Calls Try.prog 18 #[.agg #[.int .i64 N, .slice A n c], .slice B m d] w fun e w' => e = .returned (.bool (isColoring N X C)) ∧ Below w.heap.size w w' := by
  have hXX := Lib.hid hX.1
  have hCC := Lib.hid hC.1
  rcases isGraph_cases N X with hg | ⟨k, Q, rfl, rfl, h⟩
  · have Hg := Lib.hid hg
    have Hr := Lib.hid (isColoring_no (C := C) hg)
    clear hg
    go_enter Try.func18, Try.ntmps18
    go_wp2_with fail
    refine (implIsGraph_is (hX.up (by go_grown)) hn Hg.out).mono ?_
    rintro e w1 ⟨rfl, hb1⟩
    have hw1 : Below w.heap.size w w1 := Up.then_ (by go_grown) hb1
    obtain ⟨hc1, hf1⟩ := bcell hb1
    have hz1 := hb1.size
    try simp only [World.size_alloc] at hz1
    try simp only [World.size_setCell] at hz1
    try simp only [World.size_alloc] at hz1
    try simp only [World.size_drew] at hz1
    have hl1_0 : w.heap.size < w1.heap.size := by omega
    go_wp2
    go_ret
    exact ⟨ret_bool Hr.out.symm, by go_grown⟩
  · have hn7 := h.le
    obtain rfl : n = k := by have := hXX.out; rw [ints_len, h.len] at this; omega
    by_cases hmn : m = n
    · subst hmn
      have HR := Lib.hid (isColoring_ok h hCC.out)
      go_enter Try.func18, Try.ntmps18
      go_wp2_with fail
      refine (implIsGraph_is (hX.up (by go_grown)) hn h.is).mono ?_
      rintro e w1 ⟨rfl, hb1⟩
      have hw1 : Below w.heap.size w w1 := Up.then_ (by go_grown) hb1
      obtain ⟨hc1, hf1⟩ := bcell hb1
      have hz1 := hb1.size
      try simp only [World.size_alloc] at hz1
      try simp only [World.size_setCell] at hz1
      try simp only [World.size_alloc] at hz1
      try simp only [World.size_drew] at hz1
      have hl1_0 : w.heap.size < w1.heap.size := by omega
      have hblk0 := (Blk.new w 26 #[.int .i64 m, .slice A m c]).up hb1
      clear hc1 hf1
      obtain ⟨hx0, hx1⟩ := hblk0.two
      go_wp2_with fail
      go_loopw [20] (fun i wr => ∃ k : Nat, k ≤ m ∧ i = .int .i64 k ∧ Below w1.heap.size w1 wr ∧ Hid (∀ v, v < k → (0 ≤ C.getD v 0 ∧ C.getD v 0 ≤ 6) ∧ ∀ x, x < v → colPair Q C v x = false)) (fun i _ => m - (intOf i).toNat)
      case atStart => exact ⟨0, Nat.zero_le _, rfl, Below.refl _ _, fun j h => absurd h (by omega)⟩
      case round =>
        obtain ⟨k, hk, rfl, hb, hall⟩ := hrel
        obtain ⟨wo, rfl⟩ : ∃ wo : World, wo = wr := ⟨_, rfl⟩
        clear hx0 hx1
        have hblk := hblk0.up hb
        have hwr := Up.then_ hw1 hb
        obtain ⟨hx0, hx1⟩ := hblk.two
        by_cases hlt : k < m
        · obtain ⟨b, rfl, _, hcb⟩ := (hC.up hwr).at_ hlt
          by_cases hin : 0 ≤ C.getD k 0 ∧ C.getD k 0 ≤ 6
          · have HIn := Lib.hid hin
            have hin' : 0 ≤ C[k]?.getD 0 ∧ C[k]?.getD 0 ≤ 6 := hin
            clear hin
            go_wp2_with (go_at_call 62; refine (within_yes _ _ _ _ hin').mono ?_; rintro e w' ⟨rfl, rfl⟩)
            go_loopw [29] (fun s wr => ∃ j : Nat, j ≤ k ∧ s = .int .i64 j ∧ Below wo.heap.size wo wr ∧ Hid (∀ x, x < j → colPair Q C k x = false)) (fun s _ => k - (intOf s).toNat)
            case atStart => exact ⟨0, Nat.zero_le _, rfl, Below.refl _ _, fun j h => absurd h (by omega)⟩
            case round =>
              obtain ⟨j, hj, rfl, hb2, hall2⟩ := hrel
              clear hx0 hx1
              have hblk2 := hblk.up hb2
              have hwr2 := Up.then_ hwr hb2
              obtain ⟨hx0, hx1⟩ := hblk2.two
              by_cases hjt : j < k
              · obtain ⟨a, rfl, hca⟩ := (hX.up hwr2).nb_at hlt
                obtain ⟨b', e', _, hcj⟩ := (hC.up hwr2).at_ (show j < m by omega)
                injection e' with e'
                subst e'
                have hr := h.nb7 k
                rcases Bool.eq_false_or_eq_true ((nb Q k).testBit j) with e1 | e1
                · have H1 := Lib.hid e1
                  clear e1
                  rcases Bool.eq_false_or_eq_true (C[j]?.getD 0 == C[k]?.getD 0) with e2 | e2
                  · have Hno := Lib.hid (coloring_pair (n := m) (Q := Q) (C := C) hlt hjt (by rw [colPair, H1.out]; simpa using e2))
                    go_wp2_with (go_at_call 52; refine (has_is (by omega) (by omega) H1.out).mono ?_; rintro e w' ⟨rfl, rfl⟩)
                    go_ret
                    exact ⟨ret_bool (HR.out.trans Hno.out).symm, hwr2⟩
                  · have Hok := Lib.hid (show colPair Q C k j = false by rw [colPair, H1.out]; simpa using e2)
                    go_wp2_with (go_at_call 52; refine (has_is (by omega) (by omega) H1.out).mono ?_; rintro e w' ⟨rfl, rfl⟩)
                    go_roundw
                    case rel => exact ⟨j + 1, by omega, by go_num, hb2, fun x hx => by
                      rcases Nat.lt_succ_iff_lt_or_eq.1 hx with h' | rfl
                      · exact hall2.out x h'
                      · exact Hok.out⟩
                    case measure => simp [intOf]; omega
                · have H1 := Lib.hid e1
                  clear e1
                  have Hok := Lib.hid (show colPair Q C k j = false by rw [colPair, H1.out]; rfl)
                  go_wp2_with (go_at_call 52; refine (has_is (by omega) (by omega) H1.out).mono ?_; rintro e w' ⟨rfl, rfl⟩)
                  go_roundw
                  case rel => exact ⟨j + 1, by omega, by go_num, hb2, fun x hx => by
                    rcases Nat.lt_succ_iff_lt_or_eq.1 hx with h' | rfl
                    · exact hall2.out x h'
                    · exact Hok.out⟩
                  case measure => simp [intOf]; omega
              · obtain rfl : j = k := by omega
                go_wp2
                go_roundw
                case rel => exact ⟨j + 1, by omega, by go_num, hb.trans (hb2.mono hb.size), fun v hv => by
                  rcases Nat.lt_succ_iff_lt_or_eq.1 hv with h' | rfl
                  · exact hall.out v h'
                  · exact ⟨HIn.out, hall2.out⟩⟩
                case measure => simp [intOf]; omega
          · have Hno := Lib.hid (coloring_out (n := m) (Q := Q) (C := C) hlt hin)
            go_wp2_with (go_at_call 62; refine (within_no _ _ _ _ hin).mono ?_; rintro e w' ⟨rfl, rfl⟩)
            go_ret
            exact ⟨ret_bool (HR.out.trans Hno.out).symm, hwr⟩
        · obtain rfl : k = m := by omega
          go_wp2
          go_ret
          exact ⟨ret_bool (HR.out.trans (coloring_all hall.out)).symm, hwr⟩
    · have Hr := Lib.hid (isColoring_len (N := (n : Int)) (X := ints Q) (C := C) (by rw [hCC.out, ints_len, h.len]; exact hmn))
      have hne : ((m : Int) != n) = true := by simp; omega
      go_enter Try.func18, Try.ntmps18
      go_wp2_with fail
      refine (implIsGraph_is (hX.up (by go_grown)) hn h.is).mono ?_
      rintro e w1 ⟨rfl, hb1⟩
      have hw1 : Below w.heap.size w w1 := Up.then_ (by go_grown) hb1
      obtain ⟨hc1, hf1⟩ := bcell hb1
      have hz1 := hb1.size
      try simp only [World.size_alloc] at hz1
      try simp only [World.size_setCell] at hz1
      try simp only [World.size_alloc] at hz1
      try simp only [World.size_drew] at hz1
      have hl1_0 : w.heap.size < w1.heap.size := by omega
      obtain ⟨hx0, hx1⟩ := ((Blk.new w 26 #[.int .i64 n, .slice A n c]).up hb1).two
      go_wp2
      go_ret
      exact ⟨ret_bool Hr.out.symm, by go_grown⟩

set_option maxHeartbeats 2000000 in
theorem specIsColoring_any (N : Int) (A B : Option Addr) (n m c d : Nat) (X C : List Int) (w : World) (hX : RI w A n X) (hC : RI w B m C) (hn : n ≤ 9223372036854775807) (hm : m ≤ 9223372036854775807) :
    Calls Try.prog 23 #[.agg #[.int .i64 N, .slice A n c], .slice B m d] w fun e w' => e = .returned (.bool (isColoring N X C)) ∧ Below w.heap.size w w' := by
  have hXX := Lib.hid hX.1
  have hCC := Lib.hid hC.1
  rcases isGraph_cases N X with hg | ⟨k, Q, rfl, rfl, h⟩
  · have Hg := Lib.hid hg
    have Hr := Lib.hid (isColoring_no (C := C) hg)
    clear hg
    go_enter Try.func23, Try.ntmps23
    go_wp2_with fail
    refine (specIsGraph_is (hX.up (by go_grown)) hn Hg.out).mono ?_
    rintro e w1 ⟨rfl, hb1⟩
    have hw1 : Below w.heap.size w w1 := Up.then_ (by go_grown) hb1
    obtain ⟨hc1, hf1⟩ := bcell hb1
    have hz1 := hb1.size
    try simp only [World.size_alloc] at hz1
    try simp only [World.size_setCell] at hz1
    try simp only [World.size_alloc] at hz1
    try simp only [World.size_drew] at hz1
    have hl1_0 : w.heap.size < w1.heap.size := by omega
    go_wp2
    go_ret
    exact ⟨ret_bool Hr.out.symm, by go_grown⟩
  · have hn7 := h.le
    obtain rfl : n = k := by have := hXX.out; rw [ints_len, h.len] at this; omega
    by_cases hmn : m = n
    · subst hmn
      have HR := Lib.hid (isColoring_ok h hCC.out)
      go_enter Try.func23, Try.ntmps23
      go_wp2_with fail
      refine (specIsGraph_is (hX.up (by go_grown)) hn h.is).mono ?_
      rintro e w1 ⟨rfl, hb1⟩
      have hw1 : Below w.heap.size w w1 := Up.then_ (by go_grown) hb1
      obtain ⟨hc1, hf1⟩ := bcell hb1
      have hz1 := hb1.size
      try simp only [World.size_alloc] at hz1
      try simp only [World.size_setCell] at hz1
      try simp only [World.size_alloc] at hz1
      try simp only [World.size_drew] at hz1
      have hl1_0 : w.heap.size < w1.heap.size := by omega
      have hblk0 := (Blk.new w 26 #[.int .i64 m, .slice A m c]).up hb1
      clear hc1 hf1
      obtain ⟨hx0, hx1⟩ := hblk0.two
      go_wp2_with fail
      go_loopw [5] (fun i wr => ∃ k : Nat, k ≤ m ∧ i = .int .i64 k ∧ Below w1.heap.size w1 wr ∧ Hid (∀ v, v < k → (0 ≤ C.getD v 0 ∧ C.getD v 0 ≤ 6) ∧ ∀ x, x < v → colPair Q C v x = false)) (fun i _ => m - (intOf i).toNat)
      case atStart => exact ⟨0, Nat.zero_le _, rfl, Below.refl _ _, fun j h => absurd h (by omega)⟩
      case round =>
        obtain ⟨k, hk, rfl, hb, hall⟩ := hrel
        obtain ⟨wo, rfl⟩ : ∃ wo : World, wo = wr := ⟨_, rfl⟩
        clear hx0 hx1
        have hblk := hblk0.up hb
        have hwr := Up.then_ hw1 hb
        obtain ⟨hx0, hx1⟩ := hblk.two
        by_cases hlt : k < m
        · obtain ⟨b, rfl, _, hcb⟩ := (hC.up hwr).at_ hlt
          by_cases hin : 0 ≤ C.getD k 0 ∧ C.getD k 0 ≤ 6
          · have HIn := Lib.hid hin
            have hin' : 0 ≤ C[k]?.getD 0 ∧ C[k]?.getD 0 ≤ 6 := hin
            clear hin
            go_wp2_with (go_at_call 70; refine (l1In_eq hin').mono ?_; rintro e w' ⟨rfl, rfl⟩)
            go_loopw [6] (fun s wr => ∃ j : Nat, j ≤ k ∧ s = .int .i64 j ∧ Below wo.heap.size wo wr ∧ Hid (∀ x, x < j → colPair Q C k x = false)) (fun s _ => k - (intOf s).toNat)
            case atStart => exact ⟨0, Nat.zero_le _, rfl, Below.refl _ _, fun j h => absurd h (by omega)⟩
            case round =>
              obtain ⟨j, hj, rfl, hb2, hall2⟩ := hrel
              obtain ⟨wi, rfl⟩ : ∃ wi : World, wi = wr := ⟨_, rfl⟩
              clear hx0 hx1
              have hblk2 := hblk.up hb2
              have hwr2 := Up.then_ hwr hb2
              obtain ⟨hx0, hx1⟩ := hblk2.two
              have hl2 := hblk2.lt
              by_cases hjt : j < k
              · have hXw := hX.up hwr2
                have hjm : j < m := by omega
                obtain ⟨b1, e1', hlk, hck⟩ := (hC.up hwr2).at_ hlt
                injection e1' with e1'
                subst e1'
                obtain ⟨b', e', hlj, hcj⟩ := (hC.up hwr2).at_ (show j < m by omega)
                injection e' with e'
                subst e'
                rcases Bool.eq_false_or_eq_true ((nb Q k).testBit j) with e1 | e1
                · have H1 := Lib.hid e1
                  clear e1
                  rcases Bool.eq_false_or_eq_true (C[k]?.getD 0 == C[j]?.getD 0) with e2 | e2
                  · have Hno := Lib.hid (coloring_pair (n := m) (Q := Q) (C := C) hlt hjt (by rw [colPair, H1.out]; simp at e2 ⊢; exact e2.symm))
                    go_wp2
                    have hU0 : Up wi wi.drew := (Up.refl _).drew
                    go_region_held3 (fun w' => Up wi w' ∧ (∀ b o, b < wi.heap.size → w'.cell? ⟨b, o, none⟩ = wi.cell? ⟨b, o, none⟩) ∧ w'.cell? (b.add k) = some (.int .i64 (C.getD k 0)) ∧ w'.cell? (b.add j) = some (.int .i64 (C.getD j 0))) (first | exact upk3 hU1 hlk hck hcj | exact upk3 hU0 hlk hck hcj)
                      (first | (go_at_call 69; refine (l2Edge_is (hXw.up hU0) h hlt (by omega) H1.out).mono ?_; rintro e w2 ⟨rfl, hb3⟩; have hU1 := Up.then_ hU0 hb3))
                    go_wp2
                    go_ret
                    exact ⟨ret_bool (HR.out.trans Hno.out).symm, Up.then_ hwr2 hU1⟩
                  · have Hok := Lib.hid (show colPair Q C k j = false by rw [colPair, H1.out]; simp at e2 ⊢; exact fun e => e2 e.symm)
                    go_wp2
                    have hU0 : Up wi wi.drew := (Up.refl _).drew
                    go_region_held3 (fun w' => Up wi w' ∧ (∀ b o, b < wi.heap.size → w'.cell? ⟨b, o, none⟩ = wi.cell? ⟨b, o, none⟩) ∧ w'.cell? (b.add k) = some (.int .i64 (C.getD k 0)) ∧ w'.cell? (b.add j) = some (.int .i64 (C.getD j 0))) (first | exact upk3 hU1 hlk hck hcj | exact upk3 hU0 hlk hck hcj)
                      (first | (go_at_call 69; refine (l2Edge_is (hXw.up hU0) h hlt (by omega) H1.out).mono ?_; rintro e w2 ⟨rfl, hb3⟩; have hU1 := Up.then_ hU0 hb3))
                    go_wp2
                    go_roundw
                    case rel => exact ⟨j + 1, by omega, by go_num, Up.then_ hb2 hU1, fun x hx => by
                      rcases Nat.lt_succ_iff_lt_or_eq.1 hx with h' | rfl
                      · exact hall2.out x h'
                      · exact Hok.out⟩
                    case measure => simp [intOf]; omega
                · have H1 := Lib.hid e1
                  clear e1
                  have Hok := Lib.hid (show colPair Q C k j = false by rw [colPair, H1.out]; rfl)
                  go_wp2
                  have hU0 : Up wi wi.drew := (Up.refl _).drew
                  refine wp_region_held_drew (S := (fun w' => Up wi w' ∧ (∀ b o, b < wi.heap.size → w'.cell? ⟨b, o, none⟩ = wi.cell? ⟨b, o, none⟩))) (by kernel_rfl) (upk hU0) (fun hHeld => ?_)
                  refine wpAnyH_take (i := 0) (oi := { dst := some 34, op := .load 26 (.tmp 2), type := 26, pos := "l07_clique.go:85", after := #[], guard := none }) (v := ?_) rfl (by kernel_rfl) (by kernel_rfl) (by kernel_rfl) (fun _ _ _ h => h) (Or.inl ⟨by rfl, ?_⟩) (by assumption) ?_
                  rotate_left
                  · intro w' hSw
                    go_simp
                    try with_reducible rfl
                  try simp only [Act.put, List.setIfInBounds_toArray, List.set_cons_zero, List.set_cons_succ]
                  refine wpAnyH_take (i := 1) (oi := { dst := some 35, op := .move (.tmp 5), type := 3, pos := "l07_clique.go:85", after := #[], guard := none }) (v := ?_) rfl (by kernel_rfl) (by kernel_rfl) (by kernel_rfl) (fun _ _ _ h => h) (Or.inl ⟨by rfl, ?_⟩) (by assumption) ?_
                  rotate_left
                  · intro w' hSw
                    go_simp
                    try with_reducible rfl
                  try simp only [Act.put, List.setIfInBounds_toArray, List.set_cons_zero, List.set_cons_succ]
                  refine wpAnyH_take (i := 2) (oi := { dst := some 36, op := .move (.tmp 6), type := 3, pos := "l07_clique.go:85", after := #[], guard := none }) (v := ?_) rfl (by kernel_rfl) (by kernel_rfl) (by kernel_rfl) (fun _ _ _ h => h) (Or.inl ⟨by rfl, ?_⟩) (by assumption) ?_
                  rotate_left
                  · intro w' hSw
                    go_simp
                    try with_reducible rfl
                  try simp only [Act.put, List.setIfInBounds_toArray, List.set_cons_zero, List.set_cons_succ]
                  refine wpAnyH_ready (rs := [3]) (by kernel_rfl) (by simp) ?_
                  refine AllReadyH.cons (o := { dst := some 37, op := .call { callee := .value (.func 69), args := #[.tmp 34, .tmp 35, .tmp 36], argTypes := #[26, 3, 3] }, type := 4, pos := "l07_clique.go:85", after := #[{ on := 0, ground := .data }, { on := 1, ground := .data }, { on := 2, ground := .data }], guard := none }) rfl (fun K hK => ?_) AllReadyH.nil
                  go_simp
                  go_at_call 69
                  refine (l2Edge_is (hXw.up hU0) h hlt (by omega) H1.out).mono ?_
                  rintro e w2 ⟨rfl, hb3⟩
                  have hU1 := Up.then_ hU0 hb3
                  go_wp2_with fail
                  refine hK.out _ _ (upk hU1) (fun hHeld1 => ?_)
                  clear hK K
                  try simp only [Act.put, List.setIfInBounds_toArray, List.set_cons_zero, List.set_cons_succ]
                  refine wpAnyH_take (i := 4) (oi := { dst := some 38, op := .move (.tmp 37), type := 4, pos := "l07_clique.go:85", after := #[{ on := 3, ground := .data }, { on := 3, ground := .chain }], guard := none }) (v := ?_) rfl (by kernel_rfl) (by kernel_rfl) (by kernel_rfl) (fun _ _ _ h => h) (Or.inl ⟨by rfl, ?_⟩) (by assumption) ?_
                  rotate_left
                  · intro w' hSw
                    go_simp
                    try with_reducible rfl
                  try simp only [Act.put, List.setIfInBounds_toArray, List.set_cons_zero, List.set_cons_succ]
                  refine wpAnyH_take (i := 5) (oi := { dst := some 39, op := .move (.tmp 1), type := 24, pos := "l07_clique.go:85", after := #[{ on := 4, ground := .guard }], guard := some (4, true) }) (v := undef) rfl (by kernel_rfl) (by kernel_rfl) (by kernel_rfl) (fun _ _ _ h => h) (Or.inr ⟨by rfl, rfl⟩) (by assumption) ?_
                  try simp only [Act.put, List.setIfInBounds_toArray, List.set_cons_zero, List.set_cons_succ]
                  refine wpAnyH_take (i := 6) (oi := { dst := some 40, op := .move (.tmp 5), type := 3, pos := "l07_clique.go:85", after := #[{ on := 4, ground := .guard }], guard := some (4, true) }) (v := undef) rfl (by kernel_rfl) (by kernel_rfl) (by kernel_rfl) (fun _ _ _ h => h) (Or.inr ⟨by rfl, rfl⟩) (by assumption) ?_
                  try simp only [Act.put, List.setIfInBounds_toArray, List.set_cons_zero, List.set_cons_succ]
                  refine wpAnyH_take (i := 7) (oi := { dst := some 41, op := .indexAddr 24 (.tmp 39) (.tmp 40), type := 0, pos := "l07_clique.go:85", after := #[{ on := 5, ground := .data }, { on := 6, ground := .data }, { on := 4, ground := .guard }], guard := some (4, true) }) (v := undef) rfl (by kernel_rfl) (by kernel_rfl) (by kernel_rfl) (fun _ _ _ h => h) (Or.inr ⟨by rfl, rfl⟩) (by assumption) ?_
                  try simp only [Act.put, List.setIfInBounds_toArray, List.set_cons_zero, List.set_cons_succ]
                  refine wpAnyH_take (i := 8) (oi := { dst := some 42, op := .load 3 (.tmp 41), type := 3, pos := "l07_clique.go:85", after := #[{ on := 7, ground := .data }, { on := 4, ground := .guard }], guard := some (4, true) }) (v := undef) rfl (by kernel_rfl) (by kernel_rfl) (by kernel_rfl) (fun _ _ _ h => h) (Or.inr ⟨by rfl, rfl⟩) (by assumption) ?_
                  try simp only [Act.put, List.setIfInBounds_toArray, List.set_cons_zero, List.set_cons_succ]
                  refine wpAnyH_take (i := 9) (oi := { dst := some 43, op := .move (.tmp 1), type := 24, pos := "l07_clique.go:85", after := #[{ on := 4, ground := .guard }], guard := some (4, true) }) (v := undef) rfl (by kernel_rfl) (by kernel_rfl) (by kernel_rfl) (fun _ _ _ h => h) (Or.inr ⟨by rfl, rfl⟩) (by assumption) ?_
                  try simp only [Act.put, List.setIfInBounds_toArray, List.set_cons_zero, List.set_cons_succ]
                  refine wpAnyH_take (i := 10) (oi := { dst := some 44, op := .move (.tmp 6), type := 3, pos := "l07_clique.go:85", after := #[{ on := 4, ground := .guard }], guard := some (4, true) }) (v := undef) rfl (by kernel_rfl) (by kernel_rfl) (by kernel_rfl) (fun _ _ _ h => h) (Or.inr ⟨by rfl, rfl⟩) (by assumption) ?_
                  try simp only [Act.put, List.setIfInBounds_toArray, List.set_cons_zero, List.set_cons_succ]
                  refine wpAnyH_take (i := 11) (oi := { dst := some 45, op := .indexAddr 24 (.tmp 43) (.tmp 44), type := 0, pos := "l07_clique.go:85", after := #[{ on := 9, ground := .data }, { on := 10, ground := .data }, { on := 4, ground := .guard }], guard := some (4, true) }) (v := undef) rfl (by kernel_rfl) (by kernel_rfl) (by kernel_rfl) (fun _ _ _ h => h) (Or.inr ⟨by rfl, rfl⟩) (by assumption) ?_
                  try simp only [Act.put, List.setIfInBounds_toArray, List.set_cons_zero, List.set_cons_succ]
                  refine wpAnyH_take (i := 12) (oi := { dst := some 46, op := .load 3 (.tmp 45), type := 3, pos := "l07_clique.go:85", after := #[{ on := 11, ground := .data }, { on := 4, ground := .guard }], guard := some (4, true) }) (v := undef) rfl (by kernel_rfl) (by kernel_rfl) (by kernel_rfl) (fun _ _ _ h => h) (Or.inr ⟨by rfl, rfl⟩) (by assumption) ?_
                  try simp only [Act.put, List.setIfInBounds_toArray, List.set_cons_zero, List.set_cons_succ]
                  refine wpAnyH_take (i := 13) (oi := { dst := some 47, op := .binOp .eql 3 (.tmp 42) (.tmp 46) 3, type := 4, pos := "l07_clique.go:85", after := #[{ on := 8, ground := .data }, { on := 12, ground := .data }, { on := 4, ground := .guard }], guard := some (4, true) }) (v := undef) rfl (by kernel_rfl) (by kernel_rfl) (by kernel_rfl) (fun _ _ _ h => h) (Or.inr ⟨by rfl, rfl⟩) (by assumption) ?_
                  try simp only [Act.put, List.setIfInBounds_toArray, List.set_cons_zero, List.set_cons_succ]
                  refine wpAnyH_take (i := 14) (oi := { dst := some 48, op := .pick (.tmp 38) (.tmp 47) (.const (.bool false)), type := 4, pos := "l07_clique.go:85", after := #[{ on := 4, ground := .data }, { on := 13, ground := .data }], guard := none }) (v := ?_) rfl (by kernel_rfl) (by kernel_rfl) (by kernel_rfl) (fun _ _ _ h => h) (Or.inl ⟨by rfl, ?_⟩) (by assumption) ?_
                  rotate_left
                  · intro w' hSw
                    go_simp
                    try with_reducible rfl
                  try simp only [Act.put, List.setIfInBounds_toArray, List.set_cons_zero, List.set_cons_succ]
                  refine wpAnyH_done (by kernel_rfl) ?_ _
                  go_wp2
                  go_roundw
                  case rel => exact ⟨j + 1, by omega, by go_num, Up.then_ hb2 hU1, fun x hx => by
                    rcases Nat.lt_succ_iff_lt_or_eq.1 hx with h' | rfl
                    · exact hall2.out x h'
                    · exact Hok.out⟩
                  case measure => simp [intOf]; omega
              · obtain rfl : j = k := by omega
                go_wp2
                go_roundw
                case rel => exact ⟨j + 1, by omega, by go_num, hb.trans (hb2.mono hb.size), fun v hv => by
                  rcases Nat.lt_succ_iff_lt_or_eq.1 hv with h' | rfl
                  · exact hall.out v h'
                  · exact ⟨HIn.out, hall2.out⟩⟩
                case measure => simp [intOf]; omega
          · have Hno := Lib.hid (coloring_out (n := m) (Q := Q) (C := C) hlt hin)
            go_wp2_with (go_at_call 70; refine (l1In_no _ _ _ _ hin).mono ?_; rintro e w' ⟨rfl, rfl⟩)
            go_ret
            exact ⟨ret_bool (HR.out.trans Hno.out).symm, hwr⟩
        · obtain rfl : k = m := by omega
          go_wp2
          go_ret
          exact ⟨ret_bool (HR.out.trans (coloring_all hall.out)).symm, hwr⟩
    · have Hr := Lib.hid (isColoring_len (N := (n : Int)) (X := ints Q) (C := C) (by rw [hCC.out, ints_len, h.len]; exact hmn))
      have hne : ((m : Int) != n) = true := by simp; omega
      go_enter Try.func23, Try.ntmps23
      go_wp2_with fail
      refine (specIsGraph_is (hX.up (by go_grown)) hn h.is).mono ?_
      rintro e w1 ⟨rfl, hb1⟩
      have hw1 : Below w.heap.size w w1 := Up.then_ (by go_grown) hb1
      obtain ⟨hc1, hf1⟩ := bcell hb1
      have hz1 := hb1.size
      try simp only [World.size_alloc] at hz1
      try simp only [World.size_setCell] at hz1
      try simp only [World.size_alloc] at hz1
      try simp only [World.size_drew] at hz1
      have hl1_0 : w.heap.size < w1.heap.size := by omega
      obtain ⟨hx0, hx1⟩ := ((Blk.new w 26 #[.int .i64 n, .slice A n c]).up hb1).two
      go_wp2
      go_ret
      exact ⟨ret_bool Hr.out.symm, by go_grown⟩
end Go.Proofs.Ythncdjcmlpiebaa
namespace Go.Proofs.Ythncdjcmlpiebaa
open Go.RowKit

def maxCliquesOf (N : Int) (X : List Int) : List Nat := if isGraph N X then maxCliques (X.map Int.toNat) N.toNat else []
theorem maxCliquesOf_no {N : Int} {X : List Int} (h : isGraph N X = false) : maxCliquesOf N X = [] := by rw [maxCliquesOf, h]; rfl
theorem maxCliquesOf_ok {n : Nat} {Q : List Nat} (h : GOk n Q) : maxCliquesOf n (ints Q) = maxCliques Q n := by rw [maxCliquesOf, if_pos h.is, nats_ints, Int.toNat_natCast]
theorem standsK_yes {Q : List Nat} {s v : Nat} (h : standsK Q s v = true) (k : stands Q s v = true) : standsK Q s (v + 1) = true := by rw [standsK, h, k]; rfl
theorem standsK_no {Q : List Nat} {s v : Nat} (k : stands Q s v = false) : standsK Q s (v + 1) = false := by rw [standsK, k]; simp
theorem standsK_off {Q : List Nat} {s v : Nat} (h : standsK Q s v = false) : standsK Q s (v + 1) = false := by rw [standsK, h]; rfl
theorem stands_in {Q : List Nat} {s v : Nat} (h : s.testBit v = true) : stands Q s v = true := by rw [stands, h]; rfl
theorem stands_out {Q : List Nat} {s v : Nat} (h : s.testBit v = false) : stands Q s v = (dif s (nb Q v) != 0) := by rw [stands, h]; rfl
theorem maxCliques_len (Q : List Nat) {n : Nat} (h : n ≤ 7) : (maxCliques Q n).length ≤ 128 := by
  have h1 := maxK_len Q n (2 ^ n - 1)
  have h2 := pow_le7 h
  unfold maxCliques
  omega
set_option maxRecDepth 100000 in
set_option maxHeartbeats 2000000 in
theorem implMaximalCliques_any (N : Int) (A : Option Addr) (n c : Nat) (X : List Int) (w : World) (hX : RI w A n X) (hn : n ≤ 9223372036854775807) :
    Calls Try.prog 7 #[.agg #[.int .i64 N, .slice A n c]] w (GivesI (ints (maxCliquesOf N X)) w) := by
  rcases isGraph_cases N X with hg | ⟨k, Q, rfl, rfl, h⟩
  · have Hg := Lib.hid hg
    rw [maxCliquesOf_no hg]
    clear hg
    have hown0 : OwnI ((w.alloc (.cells #[.int .i64 N, .slice A n c] 26)).alloc (.cells #[] 3)) w.heap.size (some ⟨w.heap.size + 1, 0, none⟩) 0 0 [] := by
      have hh := OwnI.made (base := w.heap.size) (w.alloc (.cells #[.int .i64 N, .slice A n c] 26)) (by simp)
      have e : (w.alloc (.cells #[.int .i64 N, .slice A n c] 26)).heap.size = w.heap.size + 1 := by simp
      rw [e] at hh
      exact hh
    go_enter Try.func7, Try.ntmps7
    go_wp2_with fail
    refine (implIsGraph_is (hX.up (by go_grown)) hn Hg.out).mono ?_
    rintro e w1 ⟨rfl, hb1⟩
    have hw1 : Below w.heap.size w w1 := Up.then_ (by go_grown) hb1
    replace hown0 := hown0.up hb1
    go_wp2
    go_ret
    exact givesI_of (l := []) (hown0.cast rfl rfl) hw1
  · obtain rfl : n = k := by rw [← hX.1, ints_len, h.len]
    rw [maxCliquesOf_ok h]
    have hn7 := h.le
    have hp1 := p2_le hn7
    have hp2 := p2_pos n
    have hown0 : OwnI ((w.alloc (.cells #[.int .i64 n, .slice A n c] 26)).alloc (.cells #[] 3)) w.heap.size (some ⟨w.heap.size + 1, 0, none⟩) 0 0 [] := by
      have hh := OwnI.made (base := w.heap.size) (w.alloc (.cells #[.int .i64 n, .slice A n c] 26)) (by simp)
      have e : (w.alloc (.cells #[.int .i64 n, .slice A n c] 26)).heap.size = w.heap.size + 1 := by simp
      rw [e] at hh
      exact hh
    go_enter Try.func7, Try.ntmps7
    go_wp2_with fail
    refine (implIsGraph_is (hX.up (by go_grown)) hn h.is).mono ?_
    rintro e w1 ⟨rfl, hb1⟩
    have hw1 : Below w.heap.size w w1 := Up.then_ (by go_grown) hb1
    replace hown0 := hown0.up hb1
    have hblk0 := ((Blk.new w 26 #[.int .i64 n, .slice A n c]).alloc (.cells #[] 3)).up hb1
    go_wp2_with fail
    go_loopw [3, 4] (fun v i wr => ∃ (k : Nat) (B : Option Addr) (d : Nat), k + 1 ≤ p2 n ∧ i = .int .i64 ((k : Int) + 1) ∧ v = .slice B (maxK Q n k).length d ∧ OwnI wr w.heap.size B (maxK Q n k).length d (ints (maxK Q n k)) ∧ Blk wr w.heap.size 26 #[.int .i64 n, .slice A n c] ∧ Below w.heap.size w wr) (fun _ i _ => p2 n - (intOf i).toNat)
    case atStart => exact ⟨0, _, _, by omega, rfl, rfl, hown0.cast rfl rfl, hblk0, hw1⟩
    case round =>
      obtain ⟨k, B, d, hk, rfl, rfl, hown, hblk, hwr⟩ := hrel
      obtain ⟨wo, rfl⟩ : ∃ wo : World, wo = wr := ⟨_, rfl⟩
      have hml := maxK_len Q n k
      have hyb := hblk.two
      go_wp2_with fail
      refine (all_any n A c n _ hn7).mono ?_
      rintro e w2 ⟨rfl, hb2⟩
      have hw2 := Up.then_ hwr hb2
      replace hblk := hblk.up hb2
      replace hyb := hblk.two
      replace hown := hown.up hb2
      by_cases hlt : k + 1 < p2 n
      · have hs : k + 1 < 2 ^ n := hlt
        have hs7 := h.n7 hs
        have e1 : Hid (((k : Int) + 1) = ((k + 1 : Nat) : Int)) := (by omega : ((k : Int) + 1) = ((k + 1 : Nat) : Int))
        go_wp2_with fail
        rw [e1.out]
        refine (implClq_any A n c (k + 1) Q _ (hX.up hw2) h hs).mono ?_
        rintro e w3 ⟨rfl, hb3⟩
        have hw3 := Up.then_ hw2 hb3
        replace hblk := hblk.up hb3
        replace hyb := hblk.two
        replace hown := hown.up hb3
        obtain ⟨S, hS⟩ : ∃ S : Nat, S = k + 1 := ⟨_, rfl⟩
        rw [← hS] at hs hs7
        rw [← hS]
        have HS := Lib.hid hS
        clear hS
        go_wp2_with fail
        go_loopw [5, 25] (fun q i wr => ∃ v : Nat, v ≤ n ∧ i = .int .i64 v ∧ q = .bool (clq Q S && standsK Q S v) ∧ Below w3.heap.size w3 wr) (fun _ i _ => n - (intOf i).toNat)
        case atStart => exact ⟨0, Nat.zero_le _, rfl, by rw [standsK, Bool.and_true], Below.refl _ _⟩
        case round =>
          obtain ⟨v, hv, rfl, rfl, hb4⟩ := hrel
          have hw4 := Up.then_ hw3 hb4
          have hblk4 := hblk.up hb4
          have hown4 := hown.up hb4
          by_cases hvt : v < n
          · obtain ⟨a, rfl, hca⟩ := (hX.up hw4).nb_at hvt
            rcases Bool.eq_false_or_eq_true (clq Q S && standsK Q S v) with e2 | e2
            · obtain ⟨e3, e4⟩ := (Bool.and_eq_true _ _).mp e2 |> fun hh => hh
              have H3 := Lib.hid e3
              have H4 := Lib.hid e4
              rw [e2]
              clear e2 e3 e4
              rcases Bool.eq_false_or_eq_true (S.testBit v) with e5 | e5
              · have H5 := Lib.hid e5
                have HK := Lib.hid (standsK_yes H4.out (stands_in e5))
                clear e5
                go_wp2_with (go_at_call 52; refine (has_eq (by omega) (by omega) H5.out).mono ?_; rintro e w' ⟨rfl, rfl⟩)
                go_roundw
                case rel => exact ⟨v + 1, by omega, by go_num, by rw [H3.out, HK.out]; rfl, hb4⟩
                case measure => simp [intOf]; omega
              · have H5 := Lib.hid e5
                have hand := i64_dif7 hs7 (h.nb7 v)
                have hst := stands_out (Q := Q) e5
                rcases Bool.eq_false_or_eq_true (dif S (nb Q v) != 0) with e6 | e6
                · have HK := Lib.hid (standsK_yes H4.out (hst.trans e6))
                  have hne : (((dif S (nb Q v) : Nat) : Int) != 0) = true := by
                    rw [bne_iff_ne] at e6 ⊢
                    omega
                  clear e5 e6 hst
                  go_wp2_with (go_at_call 52; refine (has_eq (by omega) (by omega) H5.out).mono ?_; rintro e w' ⟨rfl, rfl⟩)
                  go_roundw
                  case rel => exact ⟨v + 1, by omega, by go_num, by rw [H3.out, HK.out]; rfl, hb4⟩
                  case measure => simp [intOf]; omega
                · have HK := Lib.hid (standsK_no (hst.trans e6))
                  have hne : dif S (nb Q v) = 0 := by simpa using e6
                  rw [hne] at hand
                  clear e5 e6 hst hne
                  go_wp2_with (go_at_call 52; refine (has_eq (by omega) (by omega) H5.out).mono ?_; rintro e w' ⟨rfl, rfl⟩)
                  go_roundw
                  case rel => exact ⟨v + 1, by omega, by go_num, by rw [HK.out, Bool.and_false], hb4⟩
                  case measure => simp [intOf]; omega
            · have HK := Lib.hid (show (clq Q S && standsK Q S (v + 1)) = false by
                rcases Bool.eq_false_or_eq_true (clq Q S) with e3 | e3
                · rw [e3] at e2; rw [standsK_off (by simpa using e2), Bool.and_false]
                · rw [e3]; rfl)
              rw [e2]
              clear e2
              go_wp2
              go_roundw
              case rel => exact ⟨v + 1, by omega, by go_num, by rw [HK.out], hb4⟩
              case measure => simp [intOf]; omega
          · obtain rfl : v = n := by omega
            have hsz := hw4.size
            have hcell := (Blk.new wr 3 #[.int .i64 (S : Int)]).one
            rcases Bool.eq_false_or_eq_true (clq Q S && standsK Q S v) with e2 | e2
            · have HM := Lib.hid (maxK_yes (show maxi Q v (k + 1) = true by rw [← HS.out]; exact e2))
              rw [e2]
              clear e2
              go_wp2_with (at_builtin; refine wpList_push rfl (.tmp 44) (.tmp 46) rfl (S : Int) rfl (hown4.alloc _) ⟨wr.heap.size, 0, none⟩ rfl hcell (by omega) (by simp; omega) ?_; intro A' c' w5 hown5 hb5 hg5)
              go_roundw
              case rel => exact ⟨k + 1, A', c', by omega, by rw [← HS.out], by rw [HM.out, ← push_len], hown5.cast (by rw [HM.out, ← push_len]) (by rw [HM.out, ← HS.out, ints_snoc]), (hown4.alloc _).keeps hg5 (hblk4.alloc _) (by decide), (hw4.alloc hsz _).trans hb5⟩
              case measure => have := HS.out; simp [intOf]; omega
            · have HM := Lib.hid (maxK_no (show maxi Q v (k + 1) = false by rw [← HS.out]; exact e2))
              rw [e2]
              clear e2
              go_wp2
              go_roundw
              case rel => exact ⟨k + 1, B, d, by omega, by rw [← HS.out], by rw [HM.out], hown4.cast (by rw [HM.out]) (by rw [HM.out]), hblk4, hw4⟩
              case measure => have := HS.out; simp [intOf]; omega
      · obtain rfl : k = p2 n - 1 := by omega
        go_wp2
        go_ret
        exact givesI_of (l := maxCliques Q n) hown hw2
end Go.Proofs.Ythncdjcmlpiebaa
namespace Go.Proofs.Ythncdjcmlpiebaa
open Go.RowKit
set_option maxRecDepth 100000 in
set_option maxHeartbeats 2000000 in
theorem specMaximalCliques_any (N : Int) (A : Option Addr) (n c : Nat) (X : List Int) (w : World) (hX : RI w A n X) (hn : n ≤ 9223372036854775807) :
    Calls Try.prog 10 #[.agg #[.int .i64 N, .slice A n c]] w (GivesI (ints (maxCliquesOf N X)) w) := by
  rcases isGraph_cases N X with hg | ⟨k, Q, rfl, rfl, h⟩
  · have Hg := Lib.hid hg
    rw [maxCliquesOf_no hg]
    clear hg
    have hown0 : OwnI ((w.alloc (.cells #[.int .i64 N, .slice A n c] 26)).alloc (.cells #[] 3)) w.heap.size (some ⟨w.heap.size + 1, 0, none⟩) 0 0 [] := by
      have hh := OwnI.made (base := w.heap.size) (w.alloc (.cells #[.int .i64 N, .slice A n c] 26)) (by simp)
      have e : (w.alloc (.cells #[.int .i64 N, .slice A n c] 26)).heap.size = w.heap.size + 1 := by simp
      rw [e] at hh
      exact hh
    go_enter Try.func10, Try.ntmps10
    go_wp2_with fail
    refine wp_loop_rounds 1 ?_
    rw [rounds_succ]
    go_wp2_with fail
    refine (specIsGraph_is (hX.up (by go_grown)) hn Hg.out).mono ?_
    rintro e w1 ⟨rfl, hb1⟩
    have hw1 : Below w.heap.size w w1 := Up.then_ (by go_grown) hb1
    replace hown0 := hown0.up hb1
    go_wp2
    go_ret
    exact givesI_of (l := []) (hown0.cast rfl rfl) hw1
  · obtain rfl : n = k := by rw [← hX.1, ints_len, h.len]
    rw [maxCliquesOf_ok h]
    have hn7 := h.le
    have hp1 := p2_le hn7
    have hp2 := p2_pos n
    have hp := shl_p2 (k := n) (by omega)
    have hown0 : OwnI ((w.alloc (.cells #[.int .i64 n, .slice A n c] 26)).alloc (.cells #[] 3)) w.heap.size (some ⟨w.heap.size + 1, 0, none⟩) 0 0 [] := by
      have hh := OwnI.made (base := w.heap.size) (w.alloc (.cells #[.int .i64 n, .slice A n c] 26)) (by simp)
      have e : (w.alloc (.cells #[.int .i64 n, .slice A n c] 26)).heap.size = w.heap.size + 1 := by simp
      rw [e] at hh
      exact hh
    go_enter Try.func10, Try.ntmps10
    go_wp2_with fail
    go_loopw [3, 4] (fun v i wr => ∃ (k : Nat) (B : Option Addr) (d : Nat), k + 1 ≤ p2 n ∧ i = .int .i64 ((k : Int) + 1) ∧ v = .slice B (maxK Q n k).length d ∧ OwnI wr w.heap.size B (maxK Q n k).length d (ints (maxK Q n k)) ∧ Blk wr w.heap.size 26 #[.int .i64 n, .slice A n c] ∧ Below w.heap.size w wr) (fun _ i _ => p2 n - (intOf i).toNat)
    case atStart => exact ⟨0, _, _, by omega, rfl, rfl, hown0.cast rfl rfl, (Blk.new w 26 #[.int .i64 n, .slice A n c]).alloc _, by go_grown⟩
    case round =>
      obtain ⟨k, B, d, hk, rfl, rfl, hown, hblk, hwr⟩ := hrel
      obtain ⟨wo, rfl⟩ : ∃ wo : World, wo = wr := ⟨_, rfl⟩
      have hml := maxK_len Q n k
      have hyb := hblk.two
      go_wp2_with fail
      refine (specIsGraph_is (hX.up hwr) hn h.is).mono ?_
      rintro e w2 ⟨rfl, hb2⟩
      have hw2 := Up.then_ hwr hb2
      replace hblk := hblk.up hb2
      replace hyb := hblk.two
      replace hown := hown.up hb2
      by_cases hlt : k + 1 < p2 n
      · have hs : k + 1 < 2 ^ n := hlt
        have hs7 := h.n7 hs
        have e1 : Hid (((k : Int) + 1) = ((k + 1 : Nat) : Int)) := (by omega : ((k : Int) + 1) = ((k + 1 : Nat) : Int))
        go_wp2_with fail
        rw [e1.out]
        refine (specIsClique_ok (s := k + 1) (hX.up hw2) h hs).mono ?_
        rintro e w3 ⟨rfl, hb3⟩
        have hw3 := Up.then_ hw2 hb3
        replace hblk := hblk.up hb3
        replace hyb := hblk.two
        replace hown := hown.up hb3
        obtain ⟨S, hS⟩ : ∃ S : Nat, S = k + 1 := ⟨_, rfl⟩
        rw [← hS] at hs hs7
        rw [← hS]
        have HS := Lib.hid hS
        have hSp : S < p2 n := by omega
        have hdec : decide (S < p2 n) = true := decide_eq_true hSp
        clear hS
        rcases Bool.eq_false_or_eq_true (clq Q S) with e3 | e3
        · have H3 := Lib.hid e3
          rw [e3]
          clear e3
          go_wp2_with fail
          go_loopw [5, 6] (fun q i wr => ∃ v : Nat, v ≤ n ∧ i = .int .i64 v ∧ q = .bool (standsK Q S v) ∧ Below w3.heap.size w3 wr) (fun _ i _ => n - (intOf i).toNat)
          case atStart => exact ⟨0, Nat.zero_le _, rfl, rfl, Below.refl _ _⟩
          case round =>
            obtain ⟨v, hv, rfl, rfl, hb4⟩ := hrel
            have hw4 := Up.then_ hw3 hb4
            have hblk4 := hblk.up hb4
            have hyb4 := hblk4.two
            have hown4 := hown.up hb4
            by_cases hvt : v < n
            · obtain ⟨a, rfl, hca⟩ := (hX.up hw4).nb_at hvt
              have hbit := bit_one S v (by omega)
              rcases Bool.eq_false_or_eq_true (standsK Q S v) with e2 | e2
              · have H2 := Lib.hid e2
                rw [e2]
                rcases Bool.eq_false_or_eq_true (S.testBit v) with e5 | e5
                · have HK := Lib.hid (standsK_yes e2 (stands_in e5))
                  rw [e5] at hbit
                  clear e2 e5
                  go_wp2
                  go_roundw
                  case rel => exact ⟨v + 1, by omega, by go_num, by rw [HK.out], hb4⟩
                  case measure => simp [intOf]; omega
                · have hand := i64_and7 (h.nb7 v) hs7
                  have hst := (stands_out (Q := Q) e5).trans dif_zero
                  rw [e5] at hbit
                  rcases Bool.eq_false_or_eq_true (nb Q v &&& S != S) with e6 | e6
                  · have HK := Lib.hid (standsK_yes e2 (hst.trans e6))
                    have hne : (((nb Q v &&& S : Nat) : Int) != (S : Int)) = true := by
                      rw [bne_iff_ne] at e6 ⊢
                      omega
                    clear e2 e5 e6 hst
                    go_wp2
                    go_roundw
                    case rel => exact ⟨v + 1, by omega, by go_num, by rw [HK.out], hb4⟩
                    case measure => simp [intOf]; omega
                  · have HK := Lib.hid (standsK_no (hst.trans e6))
                    have hne : nb Q v &&& S = S := by simpa using e6
                    rw [hne] at hand
                    clear e2 e5 e6 hst hne
                    go_wp2
                    go_roundw
                    case rel => exact ⟨v + 1, by omega, by go_num, by rw [HK.out], hb4⟩
                    case measure => simp [intOf]; omega
              · have HK := Lib.hid (standsK_off e2)
                rw [e2]
                clear e2
                go_wp2
                go_roundw
                case rel => exact ⟨v + 1, by omega, by go_num, by rw [HK.out], hb4⟩
                case measure => simp [intOf]; omega
            · obtain rfl : v = n := by omega
              have hsz := hw4.size
              have hcell := (Blk.new wr 3 #[.int .i64 (S : Int)]).one
              rcases Bool.eq_false_or_eq_true (standsK Q S v) with e2 | e2
              · have HM := Lib.hid (maxK_yes (show maxi Q v (k + 1) = true by rw [← HS.out, maxi_yes H3.out]; exact e2))
                rw [e2]
                clear e2
                go_wp2_with (at_builtin; refine wpList_push rfl (.tmp 49) (.tmp 51) rfl (S : Int) rfl (hown4.alloc _) ⟨wr.heap.size, 0, none⟩ rfl hcell (by omega) (by simp; omega) ?_; intro A' c' w5 hown5 hb5 hg5)
                go_roundw
                case rel => exact ⟨k + 1, A', c', by omega, by rw [← HS.out]; try go_num, by rw [HM.out, ← push_len], hown5.cast (by rw [HM.out, ← push_len]) (by rw [HM.out, ← HS.out, ints_snoc]), (hown4.alloc _).keeps hg5 (hblk4.alloc _) (by decide), (hw4.alloc hsz _).trans hb5⟩
                case measure => have := HS.out; simp [intOf]; omega
              · have HM := Lib.hid (maxK_no (show maxi Q v (k + 1) = false by rw [← HS.out, maxi_yes H3.out]; exact e2))
                rw [e2]
                clear e2
                go_wp2
                go_roundw
                case rel => exact ⟨k + 1, B, d, by omega, by rw [← HS.out]; try go_num, by rw [HM.out], hown4.cast (by rw [HM.out]) (by rw [HM.out]), hblk4, hw4⟩
                case measure => have := HS.out; simp [intOf]; omega
        · have HM := Lib.hid (maxK_no (show maxi Q n (k + 1) = false by rw [← HS.out]; exact maxi_no e3))
          rw [e3]
          clear e3
          go_wp2
          go_roundw
          case rel => exact ⟨k + 1, B, d, by omega, by rw [← HS.out]; try go_num, by rw [HM.out], hown.cast (by rw [HM.out]) (by rw [HM.out]), hblk, hw3⟩
          case measure => have := HS.out; simp [intOf]; omega
      · obtain rfl : k = p2 n - 1 := by omega
        have hend : ((p2 n - 1 : Nat) : Int) + 1 = (p2 n : Int) := by omega
        rw [hend]
        go_wp2
        go_ret
        exact givesI_of (l := maxCliques Q n) hown hw2
end Go.Proofs.Ythncdjcmlpiebaa
