/- Walks of chapter 3: sets of vertices, in the program and in the reference. -/
import Derived.Test.YtnaoomchekhcgaaDoorW2
namespace Go.Proofs.YtnaoomchekhcgaaDoor
open Go.RowKit

theorem ints_snoc (l : List Nat) (k : Nat) : ints l ++ [(k : Int)] = ints (l ++ [k]) := by simp [ints]
theorem ints_nil : ints [] = [] := rfl
theorem OwnI.cast {w : World} {base n m c : Nat} {A : Option Addr} {xs ys : List Int} (h : OwnI w base A n c xs) (hn : n = m) (hx : xs = ys) : OwnI w base A m c ys := by subst hn hx; exact h
theorem givesI_of {l : List Nat} {w : World} {w' : World} {A : Option Addr} {c : Nat} (h : OwnI w' w.heap.size A l.length c (ints l)) (hb : Below w.heap.size w w') : GivesI (ints l) w (.returned (.slice A l.length c)) w' :=
  ⟨A, c, by rw [ints_len], h.cast (ints_len l).symm rfl, hb⟩
/-- A list of sets or vertices that the call made: as the callers take it. -/
theorem GivesI.out {l : List Nat} {w : World} {e : Ending} {w' : World} (h : GivesI (ints l) w e w') : ∃ A c, e = .returned (.slice A l.length c) ∧ OwnI w' w.heap.size A l.length c (ints l) ∧ Below w.heap.size w w' := by
  obtain ⟨A, c, h1, h2, h3⟩ := h
  exact ⟨A, c, by rw [h1, ints_len], h2.cast (ints_len l) rfl, h3⟩
theorem push_len {l : List Nat} {k : Nat} : l.length + 1 = (l ++ [k]).length := by simp

set_option maxHeartbeats 800000 in
theorem implListOf_any (s : Nat) (w : World) (hs : s < 128) : Calls Tryd.prog 33 #[.int .i64 s] w (GivesI (ints (listOf s)) w) := by
  go_enter Tryd.func33, Tryd.ntmps33
  go_wp2_with (go_at_call 30; refine (within_yes _ _ _ _ (by omega)).mono ?_; rintro e w' ⟨rfl, rfl⟩)
  go_loopw [3, 10] (fun v i wr => ∃ (k : Nat) (A : Option Addr) (c : Nat), k ≤ 7 ∧ i = .int .i64 k ∧ v = .slice A (listK s k).length c ∧ OwnI wr w.heap.size A (listK s k).length c (ints (listK s k)) ∧ Below w.heap.size w wr) (fun _ i _ => 7 - (intOf i).toNat)
  case atStart => exact ⟨0, _, _, Nat.zero_le _, rfl, rfl, OwnI.made w (Nat.le_refl _), (Below.refl _ _).alloc (Nat.le_refl _) _⟩
  case round =>
    obtain ⟨k, A, c, hk, rfl, rfl, hown, hb⟩ := hrel
    have hll := listK_len s k
    have hsz := hb.size
    by_cases hlt : k < 7
    · rcases Bool.eq_false_or_eq_true (s.testBit k) with e1 | e1
      · have H1 := Lib.hid e1
        clear e1
        have hcell := (Blk.new wr 3 #[.int .i64 (k : Int)]).one
        go_wp2_with (first | (go_at_call 38; refine (has_eq (by omega) (by omega) H1.out).mono ?_; rintro e w' ⟨rfl, rfl⟩) | (at_builtin; refine wpList_push rfl (.tmp 16) (.tmp 18) rfl (k : Int) rfl (hown.alloc _) ⟨wr.heap.size, 0, none⟩ rfl hcell (by omega) (by simp; omega) ?_; intro A' c' w1 hown1 hb1 hg1))
        go_roundw
        case rel => exact ⟨k + 1, A', c', by omega, by go_num, by rw [listK_yes H1.out, ← push_len], hown1.cast (by rw [listK_yes H1.out, ← push_len]) (by rw [listK_yes H1.out, ints_snoc]), (hb.alloc hsz _).trans hb1⟩
        case measure => simp [intOf]; omega
      · have H1 := Lib.hid e1
        clear e1
        go_wp2_with (go_at_call 38; refine (has_eq (by omega) (by omega) H1.out).mono ?_; rintro e w' ⟨rfl, rfl⟩)
        go_roundw
        case rel => exact ⟨k + 1, A, c, by omega, by go_num, by rw [listK_no H1.out], hown.cast (by rw [listK_no H1.out]) (by rw [listK_no H1.out]), hb⟩
        case measure => simp [intOf]; omega
    · obtain rfl : k = 7 := by omega
      go_wp2
      go_ret
      exact givesI_of hown hb
theorem l3Fine_any (n : Int) (w : World) : Calls Tryd.prog 28 #[.int .i64 n] w fun e w' => e = .returned (.bool (decide (0 ≤ n) && decide (n ≤ 127))) ∧ w = w' := by
  go_enter Tryd.func28, Tryd.ntmps28
  go_wp2_with (go_at_call 27; refine (l1In_any _ _ _ _).mono ?_; rintro e w' ⟨rfl, rfl⟩)
  go_ret
  exact ⟨rfl, rfl⟩
theorem l3Fine_yes (n : Int) (w : World) (h : 0 ≤ n ∧ n ≤ 127) : Calls Tryd.prog 28 #[.int .i64 n] w fun e w' => e = .returned (.bool true) ∧ w = w' :=
  (l3Fine_any n w).mono fun _ _ hh => ⟨by rw [hh.1]; simp [h], hh.2⟩
theorem l3Fine_no (n : Int) (w : World) (h : ¬ (0 ≤ n ∧ n ≤ 127)) : Calls Tryd.prog 28 #[.int .i64 n] w fun e w' => e = .returned (.bool false) ∧ w = w' :=
  (l3Fine_any n w).mono fun _ _ hh => ⟨by rw [hh.1]; simp; omega, hh.2⟩
set_option maxHeartbeats 800000 in
theorem specListOf_any (s : Nat) (w : World) (hs : s < 128) : Calls Tryd.prog 29 #[.int .i64 s] w (GivesI (ints (listOf s)) w) := by
  go_enter Tryd.func29, Tryd.ntmps29
  go_wp2_with fail
  go_loopw [3, 4] (fun v i wr => ∃ (k : Nat) (A : Option Addr) (c : Nat), k ≤ 7 ∧ i = .int .i64 k ∧ v = .slice A (listK s k).length c ∧ OwnI wr w.heap.size A (listK s k).length c (ints (listK s k)) ∧ Below w.heap.size w wr) (fun _ i _ => 7 - (intOf i).toNat)
  case atStart => exact ⟨0, _, _, Nat.zero_le _, rfl, rfl, OwnI.made w (Nat.le_refl _), (Below.refl _ _).alloc (Nat.le_refl _) _⟩
  case round =>
    obtain ⟨k, A, c, hk, rfl, rfl, hown, hb⟩ := hrel
    have hll := listK_len s k
    have hsz := hb.size
    by_cases hlt : k < 7
    · have hbit := bit_one s k (by omega)
      rcases Bool.eq_false_or_eq_true (s.testBit k) with e1 | e1
      · have H1 := Lib.hid e1
        rw [e1] at hbit
        clear e1
        have hcell := (Blk.new wr 3 #[.int .i64 (k : Int)]).one
        go_wp2_with (first | (go_at_call 28; refine (l3Fine_yes _ _ (by omega)).mono ?_; rintro e w' ⟨rfl, rfl⟩) | (at_builtin; refine wpList_push rfl (.tmp 19) (.tmp 21) rfl (k : Int) rfl (hown.alloc _) ⟨wr.heap.size, 0, none⟩ rfl hcell (by omega) (by simp; omega) ?_; intro A' c' w1 hown1 hb1 hg1))
        go_roundw
        case rel => exact ⟨k + 1, A', c', by omega, by go_num, by rw [listK_yes H1.out, ← push_len], hown1.cast (by rw [listK_yes H1.out, ← push_len]) (by rw [listK_yes H1.out, ints_snoc]), (hb.alloc hsz _).trans hb1⟩
        case measure => simp [intOf]; omega
      · have H1 := Lib.hid e1
        rw [e1] at hbit
        clear e1
        go_wp2_with (go_at_call 28; refine (l3Fine_yes _ _ (by omega)).mono ?_; rintro e w' ⟨rfl, rfl⟩)
        go_roundw
        case rel => exact ⟨k + 1, A, c, by omega, by go_num, by rw [listK_no H1.out], hown.cast (by rw [listK_no H1.out]) (by rw [listK_no H1.out]), hb⟩
        case measure => simp [intOf]; omega
    · obtain rfl : k = 7 := by omega
      go_wp2
      go_ret
      exact givesI_of hown hb
theorem GOk.isSet {n s : Nat} {Q : List Nat} (h : GOk n Q) (hs : s < 2 ^ n) : isSet n (ints Q) s = true := by
  rw [isSet_iff h.is, ints_len, h.len]
  omega
theorem GOk.n7 {n : Nat} {Q : List Nat} (h : GOk n Q) {s : Nat} (hs : s < 2 ^ n) : s < 128 := Nat.lt_of_lt_of_le hs (Nat.pow_le_pow_right (n := 2) (by omega) h.le)
theorem GOk.nb7 {n : Nat} {Q : List Nat} (h : GOk n Q) (v : Nat) : nb Q v < 128 := h.n7 (h.lt v)