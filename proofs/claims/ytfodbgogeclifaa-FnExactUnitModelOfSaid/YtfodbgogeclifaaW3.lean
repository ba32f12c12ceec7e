/- Walks of chapter 3: sets of vertices, in the program and in the reference. -/
import Derived.Test.YtfodbgogeclifaaW2
namespace Go.Proofs.Ytfodbgogeclifaa
open Go.RowKit

theorem ints_snoc (l : List Nat) (k : Nat) : ints l ++ [(k : Int)] = ints (l ++ [k]) := by simp [ints]
theorem ints_nil : ints [] = [] := rfl
theorem OwnI.cast {w : World} {base n m c : Nat} {A : Option Addr} {xs ys : List Int} (h : OwnI w base A n c xs) (hn : n = m) (hx : xs = ys) : OwnI w base A m c ys := by subst hn hx; exact h
theorem givesI_of {l : List Nat} {w : World} {w' : World} {A : Option Addr} {c : Nat} (h : OwnI w' w.heap.size A l.length c (ints l)) (hb : Below w.heap.size w w') : GivesI (ints l) w (.returned (.slice A l.length c)) w' :=
  ⟨A, c, by rw [ints_len], h.cast (ints_len l).symm rfl, hb⟩
/-- A list of sets or vertices that the call made: as the callers take it. -/
theorem GivesI.out {l : List Nat} {w : World} {e : Ending} {w' : World} (h : GivesI (ints l) w e w') : ∃ A c, e = .returned (.slice A l.length c) ∧ OwnI w' w.heap.size A l.length c (ints l) ∧ Below w.heap.size w w' := by
  obtain ⟨A, c, h1, h2, h3⟩ := h
  exact ⟨A, c, by rw [h1, ints_len], h2.cast (ints_len l) rfl, h3⟩
theorem push_len {l : List Nat} {k : Nat} : l.length + 1 = (l ++ [k]).length := by simp

set_option maxHeartbeats 800000 in
theorem implListOf_any (s : Nat) (w : World) (hs : s < 128) : Calls Try.prog 83 #[.int .i64 s] w (GivesI (ints (listOf s)) w) := by
  go_enter Try.func83, Try.ntmps83
  go_wp2_with (go_at_call 58; refine (within_yes _ _ _ _ (by omega)).mono ?_; rintro e w' ⟨rfl, rfl⟩)
  go_loopw [3, 10] (fun v i wr => ∃ (k : Nat) (A : Option Addr) (c : Nat), k ≤ 7 ∧ i = .int .i64 k ∧ v = .slice A (listK s k).length c ∧ OwnI wr w.heap.size A (listK s k).length c (ints (listK s k)) ∧ Below w.heap.size w wr) (fun _ i _ => 7 - (intOf i).toNat)
  case atStart => exact ⟨0, _, _, Nat.zero_le _, rfl, rfl, OwnI.made w (Nat.le_refl _), (Below.refl _ _).alloc (Nat.le_refl _) _⟩
  case round =>
    obtain ⟨k, A, c, hk, rfl, rfl, hown, hb⟩ := hrel
    have hll := listK_len s k
    have hsz := hb.size
    by_cases hlt : k < 7
    · rcases Bool.eq_false_or_eq_true (s.testBit k) with e1 | e1
      · have H1 := Lib.hid e1
        clear e1
        have hcell := (Blk.new wr 3 #[.int .i64 (k : Int)]).one
        go_wp2_with (first | (go_at_call 63; refine (has_eq (by omega) (by omega) H1.out).mono ?_; rintro e w' ⟨rfl, rfl⟩) | (at_builtin; refine wpList_push rfl (.tmp 16) (.tmp 18) rfl (k : Int) rfl (hown.alloc _) ⟨wr.heap.size, 0, none⟩ rfl hcell (by omega) (by simp; omega) ?_; intro A' c' w1 hown1 hb1 hg1))
        go_roundw
        case rel => exact ⟨k + 1, A', c', by omega, by go_num, by rw [listK_yes H1.out, ← push_len], hown1.cast (by rw [listK_yes H1.out, ← push_len]) (by rw [listK_yes H1.out, ints_snoc]), (hb.alloc hsz _).trans hb1⟩
        case measure => simp [intOf]; omega
      · have H1 := Lib.hid e1
        clear e1
        go_wp2_with (go_at_call 63; refine (has_eq (by omega) (by omega) H1.out).mono ?_; rintro e w' ⟨rfl, rfl⟩)
        go_roundw
        case rel => exact ⟨k + 1, A, c, by omega, by go_num, by rw [listK_no H1.out], hown.cast (by rw [listK_no H1.out]) (by rw [listK_no H1.out]), hb⟩
        case measure => simp [intOf]; omega
    · obtain rfl : k = 7 := by omega
      go_wp2
      go_ret
      exact givesI_of hown hb
theorem l3Fine_any (n : Int) (w : World) : Calls Try.prog 101 #[.int .i64 n] w fun e w' => e = .returned (.bool (decide (0 ≤ n) && decide (n ≤ 127))) ∧ w = w' := by
  go_enter Try.func101, Try.ntmps101
  go_wp2_with (go_at_call 57; refine (l1In_any _ _ _ _).mono ?_; rintro e w' ⟨rfl, rfl⟩)
  go_ret
  exact ⟨rfl, rfl⟩
theorem l3Fine_yes (n : Int) (w : World) (h : 0 ≤ n ∧ n ≤ 127) : Calls Try.prog 101 #[.int .i64 n] w fun e w' => e = .returned (.bool true) ∧ w = w' :=
  (l3Fine_any n w).mono fun _ _ hh => ⟨by rw [hh.1]; simp [h], hh.2⟩
theorem l3Fine_no (n : Int) (w : World) (h : ¬ (0 ≤ n ∧ n ≤ 127)) : Calls Try.prog 101 #[.int .i64 n] w fun e w' => e = .returned (.bool false) ∧ w = w' :=
  (l3Fine_any n w).mono fun _ _ hh => ⟨by rw [hh.1]; simp; omega, hh.2⟩
set_option maxHeartbeats 800000 in
theorem specListOf_any (s : Nat) (w : World) (hs : s < 128) : Calls Try.prog 80 #[.int .i64 s] w (GivesI (ints (listOf s)) w) := by
  go_enter Try.func80, Try.ntmps80
  go_wp2_with fail
  go_loopw [3, 4] (fun v i wr => ∃ (k : Nat) (A : Option Addr) (c : Nat), k ≤ 7 ∧ i = .int .i64 k ∧ v = .slice A (listK s k).length c ∧ OwnI wr w.heap.size A (listK s k).length c (ints (listK s k)) ∧ Below w.heap.size w wr) (fun _ i _ => 7 - (intOf i).toNat)
  case atStart => exact ⟨0, _, _, Nat.zero_le _, rfl, rfl, OwnI.made w (Nat.le_refl _), (Below.refl _ _).alloc (Nat.le_refl _) _⟩
  case round =>
    obtain ⟨k, A, c, hk, rfl, rfl, hown, hb⟩ := hrel
    have hll := listK_len s k
    have hsz := hb.size
    by_cases hlt : k < 7
    · have hbit := bit_one s k (by omega)
      rcases Bool.eq_false_or_eq_true (s.testBit k) with e1 | e1
      · have H1 := Lib.hid e1
        rw [e1] at hbit
        clear e1
        have hcell := (Blk.new wr 3 #[.int .i64 (k : Int)]).one
        go_wp2_with (first | (go_at_call 101; refine (l3Fine_yes _ _ (by omega)).mono ?_; rintro e w' ⟨rfl, rfl⟩) | (at_builtin; refine wpList_push rfl (.tmp 19) (.tmp 21) rfl (k : Int) rfl (hown.alloc _) ⟨wr.heap.size, 0, none⟩ rfl hcell (by omega) (by simp; omega) ?_; intro A' c' w1 hown1 hb1 hg1))
        go_roundw
        case rel => exact ⟨k + 1, A', c', by omega, by go_num, by rw [listK_yes H1.out, ← push_len], hown1.cast (by rw [listK_yes H1.out, ← push_len]) (by rw [listK_yes H1.out, ints_snoc]), (hb.alloc hsz _).trans hb1⟩
        case measure => simp [intOf]; omega
      · have H1 := Lib.hid e1
        rw [e1] at hbit
        clear e1
        go_wp2_with (go_at_call 101; refine (l3Fine_yes _ _ (by omega)).mono ?_; rintro e w' ⟨rfl, rfl⟩)
        go_roundw
        case rel => exact ⟨k + 1, A, c, by omega, by go_num, by rw [listK_no H1.out], hown.cast (by rw [listK_no H1.out]) (by rw [listK_no H1.out]), hb⟩
        case measure => simp [intOf]; omega
    · obtain rfl : k = 7 := by omega
      go_wp2
      go_ret
      exact givesI_of hown hb
theorem implCountSet_any (s : Nat) (w : World) (hs : s < 128) : Calls Try.prog 69 #[.int .i64 s] w fun e w' => e = .returned (.int .i64 (card s)) ∧ Below w.heap.size w w' := by
  go_enter Try.func69, Try.ntmps69
  go_wp2_with fail
  refine (implListOf_any s w hs).mono ?_
  intro e w1 hg
  obtain ⟨A, c, rfl, hown, hb⟩ := hg.out
  clear hg
  go_wp2
  go_ret
  exact ⟨rfl, hb⟩
theorem specCountSet_any (s : Nat) (w : World) (hs : s < 128) : Calls Try.prog 66 #[.int .i64 s] w fun e w' => e = .returned (.int .i64 (card s)) ∧ Below w.heap.size w w' := by
  go_enter Try.func66, Try.ntmps66
  go_wp2_with fail
  refine (specListOf_any s w hs).mono ?_
  intro e w1 hg
  obtain ⟨A, c, rfl, hown, hb⟩ := hg.out
  clear hg
  go_wp2
  go_ret
  exact ⟨rfl, hb⟩
theorem specIsSet_any (N : Int) (A : Option Addr) (n c : Nat) (X : List Int) (s : Int) (w : World) (hX : RI w A n X) (hn : n ≤ 9223372036854775807) :
    Calls Try.prog 124 #[.agg #[.int .i64 N, .slice A n c], .int .i64 s] w fun e w' => e = .returned (.bool (isSet N X s)) ∧ Below w.heap.size w w' := by
  have hXX := Lib.hid hX.1
  rcases Bool.eq_false_or_eq_true (isGraph N X) with hg | hg
  · have sp := isGraph_spec hg
    have Hg := Lib.hid hg
    obtain ⟨k, rfl⟩ : ∃ k : Nat, N = k := ⟨N.toNat, by omega⟩
    have hk7 : k ≤ 7 := by omega
    have Hkn : Hid (X.length = k) := by have := sp.2.2.1; exact (by omega : X.length = k)
    clear sp hg
    have hp := shl_p2 (k := k) (by omega)
    go_enter Try.func124, Try.ntmps124
    go_wp2_with fail
    refine (specIsGraph_is (hX.up (by go_grown)) hn Hg.out).mono ?_
    rintro e w1 ⟨rfl, hb1⟩
    have hw1 : Below w.heap.size w w1 := Up.then_ (by go_grown) hb1
    obtain ⟨hc1, hf1⟩ := bcell hb1
    have hz1 := hb1.size
    try simp only [World.size_alloc] at hz1
    try simp only [World.size_setCell] at hz1
    try simp only [World.size_alloc] at hz1
    try simp only [World.size_drew] at hz1
    have hl1_0 : w.heap.size < w1.heap.size := by omega
    by_cases h0 : 0 ≤ s
    · go_wp2
      go_ret
      refine ⟨ret_bool ?_, by go_grown⟩
      rw [Bool.eq_iff_iff, isSet_iff Hg.out, Hkn.out]
      simp only [decide_eq_true_eq]
      have : (2 ^ k : Nat) = p2 k := rfl
      rw [this]
      omega
    · go_wp2
      go_ret
      refine ⟨ret_bool ?_, by go_grown⟩
      symm
      rw [← Bool.not_eq_true, isSet_iff Hg.out]
      omega
  · have Hg := Lib.hid hg
    have Hno := Lib.hid (isSet_no (s := s) hg)
    clear hg
    go_enter Try.func124, Try.ntmps124
    go_wp2_with fail
    refine (specIsGraph_is (hX.up (by go_grown)) hn Hg.out).mono ?_
    rintro e w1 ⟨rfl, hb1⟩
    have hw1 : Below w.heap.size w w1 := Up.then_ (by go_grown) hb1
    obtain ⟨hc1, hf1⟩ := bcell hb1
    have hz1 := hb1.size
    try simp only [World.size_alloc] at hz1
    try simp only [World.size_setCell] at hz1
    try simp only [World.size_alloc] at hz1
    try simp only [World.size_drew] at hz1
    have hl1_0 : w.heap.size < w1.heap.size := by omega
    go_wp2
    go_ret
    exact ⟨ret_bool Hno.out.symm, by go_grown⟩
theorem GOk.isSet {n s : Nat} {Q : List Nat} (h : GOk n Q) (hs : s < 2 ^ n) : isSet n (ints Q) s = true := by
  rw [isSet_iff h.is, ints_len, h.len]
  omega
theorem GOk.n7 {n : Nat} {Q : List Nat} (h : GOk n Q) {s : Nat} (hs : s < 2 ^ n) : s < 128 := Nat.lt_of_lt_of_le hs (Nat.pow_le_pow_right (n := 2) (by omega) h.le)
theorem GOk.nb7 {n : Nat} {Q : List Nat} (h : GOk n Q) (v : Nat) : nb Q v < 128 := h.n7 (h.lt v)
theorem specIsSet_ok {A : Option Addr} {n c s : Nat} {Q : List Nat} {w : World} (hX : RI w A n (ints Q)) (h : GOk n Q) (hs : s < 2 ^ n) :
    Calls Try.prog 124 #[.agg #[.int .i64 n, .slice A n c], .int .i64 s] w fun e w' => e = .returned (.bool true) ∧ Below w.heap.size w w' :=
  (specIsSet_any n A n c (ints Q) s w hX (by have := h.le; omega)).mono fun _ _ hh => ⟨by rw [hh.1, h.isSet hs], hh.2⟩
end Go.Proofs.Ytfodbgogeclifaa
