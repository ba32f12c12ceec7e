/- Walks of chapter 7: cliques, the largest sets, the maximal cliques. -/
import Derived.Test.YtcaoelihmkbedaaW3b
namespace Go.Proofs.Ytcaoelihmkbedaa
open Go.RowKit

theorem clq_all {n s : Nat} {Q : List Nat} (hs : s < 2 ^ n) (h : ∀ v, v < n → s.testBit v = true → clqAt Q s v = true) : clq Q s = true := by
  rw [clq_iff]
  exact fun v _ hb => h v (bit_lt hs hb) hb
theorem clq_at_no {n s v : Nat} {Q : List Nat} (h7 : n ≤ 7) (hv : v < n) (hb : s.testBit v = true) (h : clqAt Q s v = false) : clq Q s = false := clq_false (mem_listOf.2 ⟨by omega, hb⟩) h
set_option maxHeartbeats 800000 in
theorem specIsClique_ok {A : Option Addr} {n c s : Nat} {Q : List Nat} {w : World} (hX : RI w A n (ints Q)) (h : GOk n Q) (hs : s < 2 ^ n) :
    Calls Try.prog 68 #[.agg #[.int .i64 n, .slice A n c], .int .i64 s] w fun e w' => e = .returned (.bool (clq Q s)) ∧ Below w.heap.size w w' := by
  have hn7 := h.le
  have hs7 := h.n7 hs
  go_enter Try.func68, Try.ntmps68
  go_wp2_with fail
  refine (specIsSet_ok (hX.up (by go_grown)) h hs).mono ?_
  rintro e w1 ⟨rfl, hb1⟩
  have hw1 : Below w.heap.size w w1 := Up.then_ (by go_grown) hb1
  obtain ⟨hc1, hf1⟩ := bcell hb1
  have hz1 := hb1.size
  try simp only [World.size_alloc] at hz1
  try simp only [World.size_setCell] at hz1
  try simp only [World.size_alloc] at hz1
  try simp only [World.size_drew] at hz1
  have hl1_0 : w.heap.size < w1.heap.size := by omega
  have hblk0 := (Blk.new w 27 #[.int .i64 n, .slice A n c]).up hb1
  clear hc1 hf1
  go_wp2_with fail
  go_loopw [5] (fun i wr => ∃ k : Nat, k ≤ n ∧ i = .int .i64 k ∧ Below w1.heap.size w1 wr ∧ Hid (∀ j, j < k → s.testBit j = true → clqAt Q s j = true)) (fun i _ => n - (intOf i).toNat)
  case atStart => exact ⟨0, Nat.zero_le _, rfl, Below.refl _ _, fun j h => absurd h (by omega)⟩
  case round =>
    obtain ⟨k, hk, rfl, hb, hall⟩ := hrel
    have hblk := hblk0.up hb
    have hwr := Up.then_ hw1 hb
    obtain ⟨hx0, hx1⟩ := hblk.two
    by_cases hlt : k < n
    · obtain ⟨a, rfl, hca⟩ := (hX.up hwr).nb_at hlt
      have hbit := bit_one s k (by omega)
      rcases Bool.eq_false_or_eq_true (s.testBit k) with e1 | e1
      · have H1 := Lib.hid e1
        rw [e1] at hbit
        clear e1
        have hand := i64_and7 (h.nb7 k) hs7
        have hsh := shl_p2 (k := k) (by omega)
        have hle : p2 k ≤ s := (sub_bit H1.out).1
        rcases Bool.eq_false_or_eq_true (clqAt Q s k) with e2 | e2
        · have H2 := Lib.hid e2
          have hne : (((nb Q k &&& s : Nat) : Int)) = (s : Int) - (p2 k : Int) := by
            rw [clqAt_ref h H1.out, beq_iff_eq] at e2
            have : s - 2 ^ k = s - p2 k := rfl
            omega
          rw [hne] at hand
          clear e2 hne
          go_wp2_with fail
          go_quiet (fail)
          go_wp2
          go_roundw
          case rel => exact ⟨k + 1, by omega, by go_num, below_drewN hb _, fun j hj => by
            rcases Nat.lt_succ_iff_lt_or_eq.1 hj with h' | rfl
            · exact hall.out j h'
            · exact fun _ => H2.out⟩
          case measure => simp [intOf]; omega
        · have Hno := Lib.hid (clq_at_no hn7 hlt H1.out e2)
          have hne : (((nb Q k &&& s : Nat) : Int) != (s : Int) - (p2 k : Int)) = true := by
            rw [clqAt_ref h H1.out, beq_eq_false_iff_ne] at e2
            rw [bne_iff_ne]
            have : s - 2 ^ k = s - p2 k := rfl
            omega
          clear e2
          go_wp2_with fail
          go_quiet (fail)
          go_wp2
          go_ret
          exact ⟨ret_bool Hno.out.symm, below_drewN hwr _⟩
      · have H1 := Lib.hid e1
        rw [e1] at hbit
        clear e1
        go_wp2_with fail
        go_quiet (fail)
        go_wp2
        go_roundw
        case rel => exact ⟨k + 1, by omega, by go_num, below_drewN hb _, fun j hj => by
          rcases Nat.lt_succ_iff_lt_or_eq.1 hj with h' | rfl
          · exact hall.out j h'
          · exact fun hh => absurd (H1.out.symm.trans hh) Bool.false_ne_true⟩
        case measure => simp [intOf]; omega
    · obtain rfl : k = n := by omega
      go_wp2
      go_ret
      exact ⟨ret_bool (clq_all hs hall.out).symm, hwr⟩
theorem indep_all {n s : Nat} {Q : List Nat} (hs : s < 2 ^ n) (h : ∀ v, v < n → s.testBit v = true → nb Q v &&& s = 0) : indep Q s = true := by
  rw [indep_iff]
  exact fun v _ hb => h v (bit_lt hs hb) hb
theorem indep_at_no {n s v : Nat} {Q : List Nat} (h7 : n ≤ 7) (hv : v < n) (hb : s.testBit v = true) (h : nb Q v &&& s ≠ 0) : indep Q s = false := by
  rw [← Bool.not_eq_true, indep_iff]
  exact fun e => h (e v (by omega) hb)
set_option maxHeartbeats 800000 in
theorem specIsIndependent_ok {A : Option Addr} {n c s : Nat} {Q : List Nat} {w : World} (hX : RI w A n (ints Q)) (h : GOk n Q) (hs : s < 2 ^ n) :
    Calls Try.prog 65 #[.agg #[.int .i64 n, .slice A n c], .int .i64 s] w fun e w' => e = .returned (.bool (indep Q s)) ∧ Below w.heap.size w w' := by
  have hn7 := h.le
  have hs7 := h.n7 hs
  go_enter Try.func65, Try.ntmps65
  go_wp2_with fail
  refine (specIsSet_ok (hX.up (by go_grown)) h hs).mono ?_
  rintro e w1 ⟨rfl, hb1⟩
  have hw1 : Below w.heap.size w w1 := Up.then_ (by go_grown) hb1
  obtain ⟨hc1, hf1⟩ := bcell hb1
  have hz1 := hb1.size
  try simp only [World.size_alloc] at hz1
  try simp only [World.size_setCell] at hz1
  try simp only [World.size_alloc] at hz1
  try simp only [World.size_drew] at hz1
  have hl1_0 : w.heap.size < w1.heap.size := by omega
  have hblk := (Blk.new w 27 #[.int .i64 n, .slice A n c]).up hb1
  obtain ⟨hx0, hx1⟩ := hblk.two
  clear hc1 hf1
  have hX1 := hX.up hw1
  go_wp2_with fail
  go_loop [5] (fun i => ∃ k : Nat, k ≤ n ∧ i = .int .i64 k ∧ Hid (∀ j, j < k → s.testBit j = true → nb Q j &&& s = 0)) (fun i => n - (intOf i).toNat)
  case atStart => exact ⟨0, Nat.zero_le _, rfl, fun j h => absurd h (by omega)⟩
  case round =>
    obtain ⟨k, hk, rfl, hall⟩ := hrel
    by_cases hlt : k < n
    · obtain ⟨a, rfl, hca⟩ := hX1.nb_at hlt
      have hbit := bit_one s k (by omega)
      rcases Bool.eq_false_or_eq_true (s.testBit k) with e1 | e1
      · have H1 := Lib.hid e1
        rw [e1] at hbit
        clear e1
        have hand := i64_and7 (h.nb7 k) hs7
        by_cases e2 : nb Q k &&& s = 0
        · have H2 := Lib.hid e2
          rw [e2] at hand
          clear e2
          go_wp2
          go_round
          case rel => exact ⟨k + 1, by omega, by go_num, fun j hj => by
            rcases Nat.lt_succ_iff_lt_or_eq.1 hj with h' | rfl
            · exact hall.out j h'
            · exact fun _ => H2.out⟩
          case measure => simp [intOf]; omega
        · have Hno := Lib.hid (indep_at_no hn7 hlt H1.out e2)
          have hne : (((nb Q k &&& s : Nat) : Int) != 0) = true := by rw [bne_iff_ne]; omega
          clear e2
          go_wp2
          go_ret
          exact ⟨ret_bool Hno.out.symm, hw1⟩
      · have H1 := Lib.hid e1
        rw [e1] at hbit
        clear e1
        go_wp2
        go_round
        case rel => exact ⟨k + 1, by omega, by go_num, fun j hj => by
          rcases Nat.lt_succ_iff_lt_or_eq.1 hj with h' | rfl
          · exact hall.out j h'
          · exact fun hh => absurd (H1.out.symm.trans hh) Bool.false_ne_true⟩
        case measure => simp [intOf]; omega
    · obtain rfl : k = n := by omega
      go_wp2
      go_ret
      exact ⟨ret_bool (indep_all hs hall.out).symm, hw1⟩
theorem isGraph_cases (N : Int) (X : List Int) : (isGraph N X = false) ∨ ∃ (k : Nat) (Q : List Nat), N = k ∧ X = ints Q ∧ GOk k Q := by
  rcases Bool.eq_false_or_eq_true (isGraph N X) with h | h
  · exact .inr (isGraph_ok h)
  · exact .inl h
/-- A number that a graph has: of the graph's data as they are. -/
def ofGraph (N : Int) (X : List Int) (z : Int) (f : Nat → List Nat → Int) : Int := if isGraph N X then f N.toNat (X.map Int.toNat) else z
theorem nats_ints (Q : List Nat) : (ints Q).map Int.toNat = Q := by simp [ints, List.map_map, Function.comp_def]
theorem ofGraph_ok {k : Nat} {Q : List Nat} (h : GOk k Q) (z : Int) (f : Nat → List Nat → Int) : ofGraph k (ints Q) z f = f k Q := by
  rw [ofGraph, if_pos h.is, nats_ints, Int.toNat_natCast]
theorem ofGraph_no {N : Int} {X : List Int} (h : isGraph N X = false) (z : Int) (f : Nat → List Nat → Int) : ofGraph N X z f = z := by rw [ofGraph, h]; rfl
def largestOf (P : List Nat → Nat → Bool) (n : Nat) (Q : List Nat) : Int := (bestK (P Q) (2 ^ n - 1) : Nat)
set_option maxHeartbeats 1600000 in
theorem implLargest_clq (N : Int) (A : Option Addr) (n c : Nat) (X : List Int) (w : World) (hX : RI w A n X) (hn : n ≤ 9223372036854775807) :
    Calls Try.prog 66 #[.agg #[.int .i64 N, .slice A n c], .func (.func 69) #[] #[]] w fun e w' => e = .returned (.int .i64 (ofGraph N X 0 (largestOf clq))) ∧ Below w.heap.size w w' := by
  have hXX := Lib.hid hX.1
  rcases isGraph_cases N X with hg | ⟨k, Q, rfl, rfl, h⟩
  · have Hg := Lib.hid hg
    have Hr := Lib.hid (ofGraph_no hg 0 (largestOf clq))
    clear hg
    go_enter Try.func66, Try.ntmps66
    go_wp2_with fail
    refine (implIsGraph_is (hX.up (by go_grown)) hn Hg.out).mono ?_
    rintro e w1 ⟨rfl, hb1⟩
    have hw1 : Below w.heap.size w w1 := Up.then_ (by go_grown) hb1
    obtain ⟨hc1, hf1⟩ := bcell hb1
    have hz1 := hb1.size
    try simp only [World.size_alloc] at hz1
    try simp only [World.size_setCell] at hz1
    try simp only [World.size_alloc] at hz1
    try simp only [World.size_drew] at hz1
    have hl1_0 : w.heap.size < w1.heap.size := by omega
    go_wp2
    go_ret
    exact ⟨ret_int Hr.out.symm, hw1⟩
  · obtain rfl : n = k := by rw [← hX.1, ints_len, h.len]
    have Hr := Lib.hid (ofGraph_ok h 0 (largestOf clq))
    have hn7 := h.le
    have hp1 := p2_le hn7
    have hp2 := p2_pos n
    go_enter Try.func66, Try.ntmps66
    go_wp2_with fail
    refine (implIsGraph_is (hX.up (by go_grown)) hn h.is).mono ?_
    rintro e w1 ⟨rfl, hb1⟩
    have hw1 : Below w.heap.size w w1 := Up.then_ (by go_grown) hb1
    obtain ⟨hc1, hf1⟩ := bcell hb1
    have hz1 := hb1.size
    try simp only [World.size_alloc] at hz1
    try simp only [World.size_setCell] at hz1
    try simp only [World.size_alloc] at hz1
    try simp only [World.size_drew] at hz1
    have hl1_0 : w.heap.size < w1.heap.size := by omega
    have hblk0 := (Blk.new w 27 #[.int .i64 n, .slice A n c]).up hb1
    clear hc1 hf1
    go_wp2_with fail
    go_loopw [5, 6] (fun v i wr => ∃ k : Nat, k + 1 ≤ p2 n ∧ i = .int .i64 ((k : Int) + 1) ∧ v = .int .i64 (bestK (clq Q) k) ∧ Below w1.heap.size w1 wr) (fun _ i _ => p2 n - (intOf i).toNat)
    case atStart => exact ⟨0, by omega, rfl, rfl, Below.refl _ _⟩
    case round =>
      obtain ⟨k, hk, rfl, rfl, hb⟩ := hrel
      have hblk := hblk0.up hb
      have hwr := Up.then_ hw1 hb
      have hyb := hblk.two
      have hbk := bestK_le (clq Q) k
      go_wp2_with fail
      refine (all_any n A c n _ hn7).mono ?_
      rintro e w2 ⟨rfl, hb2⟩
      have hw2 := Up.then_ hwr hb2
      replace hblk := hblk.up hb2
      replace hyb := hblk.two
      by_cases hlt : k + 1 < p2 n
      · have hs : k + 1 < 2 ^ n := hlt
        have e1 : Hid (((k : Int) + 1) = ((k + 1 : Nat) : Int)) := (by omega : ((k : Int) + 1) = ((k + 1 : Nat) : Int))
        go_wp2_with fail
        rw [e1.out]
        refine (implCountSet_any (k + 1) _ (by omega)).mono ?_
        rintro e w3 ⟨rfl, hb3⟩
        have hw3 := Up.then_ hw2 hb3
        replace hblk := hblk.up hb3
        replace hyb := hblk.two
        go_wp2_with fail
        refine (implCountSet_any (bestK (clq Q) k) _ (by omega)).mono ?_
        rintro e w4 ⟨rfl, hb4⟩
        have hw4 := Up.then_ hw3 hb4
        replace hblk := hblk.up hb4
        replace hyb := hblk.two
        have hX4 := hX.up hw4
        have hU : Below w1.heap.size w1 w4 := Up.then_ (Up.then_ (Up.then_ hb hb2) hb3) hb4
        by_cases hc : card (bestK (clq Q) k) < card (k + 1)
        · go_wp2_with fail
          rw [e1.out]
          refine (implIsClique_ok (s := k + 1) hX4 h hs).mono ?_
          rintro e w5 ⟨rfl, hb5⟩
          rcases Bool.eq_false_or_eq_true (clq Q (k + 1)) with e2 | e2
          · have HB := Lib.hid (bestK_yes hc e2)
            go_wp2
            go_roundw
            case rel => exact ⟨k + 1, by omega, by go_num, by rw [HB.out]; go_num, Up.then_ hU hb5⟩
            case measure => simp [intOf]; omega
          · have HB := Lib.hid (bestK_not (k := k) e2)
            go_wp2
            go_roundw
            case rel => exact ⟨k + 1, by omega, by go_num, by rw [HB.out], Up.then_ hU hb5⟩
            case measure => simp [intOf]; omega
        · have HB := Lib.hid (bestK_few (P := clq Q) hc)
          go_wp2
          go_roundw
          case rel => exact ⟨k + 1, by omega, by go_num, by rw [HB.out], hU⟩
          case measure => simp [intOf]; omega
      · have hkk : k = p2 n - 1 := by omega
        have Hk := Lib.hid hkk
        clear hkk
        go_wp2
        go_ret
        exact ⟨ret_int (by rw [Hr.out, largestOf, Hk.out]; rfl), hw2⟩
theorem implLargestClique_any (N : Int) (A : Option Addr) (n c : Nat) (X : List Int) (w : World) (hX : RI w A n X) (hn : n ≤ 9223372036854775807) :
    Calls Try.prog 30 #[.agg #[.int .i64 N, .slice A n c]] w fun e w' => e = .returned (.int .i64 (ofGraph N X 0 (largestOf clq))) ∧ Below w.heap.size w w' := by
  go_enter Try.func30, Try.ntmps30
  go_wp2_with fail
  refine (implLargest_clq N A n c X _ (hX.up (by go_grown)) hn).mono ?_
  rintro e w1 ⟨rfl, hb1⟩
  have hw1 : Below w.heap.size w w1 := Up.then_ (by go_grown) hb1
  obtain ⟨hc1, hf1⟩ := bcell hb1
  have hz1 := hb1.size
  try simp only [World.size_alloc] at hz1
  try simp only [World.size_setCell] at hz1
  try simp only [World.size_alloc] at hz1
  try simp only [World.size_drew] at hz1
  have hl1_0 : w.heap.size < w1.heap.size := by omega
  go_wp2
  go_ret
  exact ⟨rfl, hw1⟩
set_option maxHeartbeats 1600000 in
theorem implLargest_indep (N : Int) (A : Option Addr) (n c : Nat) (X : List Int) (w : World) (hX : RI w A n X) (hn : n ≤ 9223372036854775807) :
    Calls Try.prog 66 #[.agg #[.int .i64 N, .slice A n c], .func (.func 67) #[] #[]] w fun e w' => e = .returned (.int .i64 (ofGraph N X 0 (largestOf indep))) ∧ Below w.heap.size w w' := by
  have hXX := Lib.hid hX.1
  rcases isGraph_cases N X with hg | ⟨k, Q, rfl, rfl, h⟩
  · have Hg := Lib.hid hg
    have Hr := Lib.hid (ofGraph_no hg 0 (largestOf indep))
    clear hg
    go_enter Try.func66, Try.ntmps66
    go_wp2_with fail
    refine (implIsGraph_is (hX.up (by go_grown)) hn Hg.out).mono ?_
    rintro e w1 ⟨rfl, hb1⟩
    have hw1 : Below w.heap.size w w1 := Up.then_ (by go_grown) hb1
    obtain ⟨hc1, hf1⟩ := bcell hb1
    have hz1 := hb1.size
    try simp only [World.size_alloc] at hz1
    try simp only [World.size_setCell] at hz1
    try simp only [World.size_alloc] at hz1
    try simp only [World.size_drew] at hz1
    have hl1_0 : w.heap.size < w1.heap.size := by omega
    go_wp2
    go_ret
    exact ⟨ret_int Hr.out.symm, hw1⟩
  · obtain rfl : n = k := by rw [← hX.1, ints_len, h.len]
    have Hr := Lib.hid (ofGraph_ok h 0 (largestOf indep))
    have hn7 := h.le
    have hp1 := p2_le hn7
    have hp2 := p2_pos n
    go_enter Try.func66, Try.ntmps66
    go_wp2_with fail
    refine (implIsGraph_is (hX.up (by go_grown)) hn h.is).mono ?_
    rintro e w1 ⟨rfl, hb1⟩
    have hw1 : Below w.heap.size w w1 := Up.then_ (by go_grown) hb1
    obtain ⟨hc1, hf1⟩ := bcell hb1
    have hz1 := hb1.size
    try simp only [World.size_alloc] at hz1
    try simp only [World.size_setCell] at hz1
    try simp only [World.size_alloc] at hz1
    try simp only [World.size_drew] at hz1
    have hl1_0 : w.heap.size < w1.heap.size := by omega
    have hblk0 := (Blk.new w 27 #[.int .i64 n, .slice A n c]).up hb1
    clear hc1 hf1
    go_wp2_with fail
    go_loopw [5, 6] (fun v i wr => ∃ k : Nat, k + 1 ≤ p2 n ∧ i = .int .i64 ((k : Int) + 1) ∧ v = .int .i64 (bestK (indep Q) k) ∧ Below w1.heap.size w1 wr) (fun _ i _ => p2 n - (intOf i).toNat)
    case atStart => exact ⟨0, by omega, rfl, rfl, Below.refl _ _⟩
    case round =>
      obtain ⟨k, hk, rfl, rfl, hb⟩ := hrel
      have hblk := hblk0.up hb
      have hwr := Up.then_ hw1 hb
      have hyb := hblk.two
      have hbk := bestK_le (indep Q) k
      go_wp2_with fail
      refine (all_any n A c n _ hn7).mono ?_
      rintro e w2 ⟨rfl, hb2⟩
      have hw2 := Up.then_ hwr hb2
      replace hblk := hblk.up hb2
      replace hyb := hblk.two
      by_cases hlt : k + 1 < p2 n
      · have hs : k + 1 < 2 ^ n := hlt
        have e1 : Hid (((k : Int) + 1) = ((k + 1 : Nat) : Int)) := (by omega : ((k : Int) + 1) = ((k + 1 : Nat) : Int))
        go_wp2_with fail
        rw [e1.out]
        refine (implCountSet_any (k + 1) _ (by omega)).mono ?_
        rintro e w3 ⟨rfl, hb3⟩
        have hw3 := Up.then_ hw2 hb3
        replace hblk := hblk.up hb3
        replace hyb := hblk.two
        go_wp2_with fail
        refine (implCountSet_any (bestK (indep Q) k) _ (by omega)).mono ?_
        rintro e w4 ⟨rfl, hb4⟩
        have hw4 := Up.then_ hw3 hb4
        replace hblk := hblk.up hb4
        replace hyb := hblk.two
        have hX4 := hX.up hw4
        have hU : Below w1.heap.size w1 w4 := Up.then_ (Up.then_ (Up.then_ hb hb2) hb3) hb4
        by_cases hc : card (bestK (indep Q) k) < card (k + 1)
        · go_wp2_with fail
          rw [e1.out]
          refine (implIsIndependent_ok (s := k + 1) hX4 h hs).mono ?_
          rintro e w5 ⟨rfl, hb5⟩
          rcases Bool.eq_false_or_eq_true (indep Q (k + 1)) with e2 | e2
          · have HB := Lib.hid (bestK_yes hc e2)
            go_wp2
            go_roundw
            case rel => exact ⟨k + 1, by omega, by go_num, by rw [HB.out]; go_num, Up.then_ hU hb5⟩
            case measure => simp [intOf]; omega
          · have HB := Lib.hid (bestK_not (k := k) e2)
            go_wp2
            go_roundw
            case rel => exact ⟨k + 1, by omega, by go_num, by rw [HB.out], Up.then_ hU hb5⟩
            case measure => simp [intOf]; omega
        · have HB := Lib.hid (bestK_few (P := indep Q) hc)
          go_wp2
          go_roundw
          case rel => exact ⟨k + 1, by omega, by go_num, by rw [HB.out], hU⟩
          case measure => simp [intOf]; omega
      · have hkk : k = p2 n - 1 := by omega
        have Hk := Lib.hid hkk
        clear hkk
        go_wp2
        go_ret
        exact ⟨ret_int (by rw [Hr.out, largestOf, Hk.out]; rfl), hw2⟩
theorem implLargestIndependent_any (N : Int) (A : Option Addr) (n c : Nat) (X : List Int) (w : World) (hX : RI w A n X) (hn : n ≤ 9223372036854775807) :
    Calls Try.prog 28 #[.agg #[.int .i64 N, .slice A n c]] w fun e w' => e = .returned (.int .i64 (ofGraph N X 0 (largestOf indep))) ∧ Below w.heap.size w w' := by
  go_enter Try.func28, Try.ntmps28
  go_wp2_with fail
  refine (implLargest_indep N A n c X _ (hX.up (by go_grown)) hn).mono ?_
  rintro e w1 ⟨rfl, hb1⟩
  have hw1 : Below w.heap.size w w1 := Up.then_ (by go_grown) hb1
  obtain ⟨hc1, hf1⟩ := bcell hb1
  have hz1 := hb1.size
  try simp only [World.size_alloc] at hz1
  try simp only [World.size_setCell] at hz1
  try simp only [World.size_alloc] at hz1
  try simp only [World.size_drew] at hz1
  have hl1_0 : w.heap.size < w1.heap.size := by omega
  go_wp2
  go_ret
  exact ⟨rfl, hw1⟩
end Go.Proofs.Ytcaoelihmkbedaa
