/- Walks of chapter 4: induced paths, holes, claws, the program's. -/
import Derived.Test.YtlcmfangecbdgaaW4ha
import Derived.Test.YtlcmfangecbdgaaW4hb
namespace Go.Proofs.Ytlcmfangecbdgaa
open Go.RowKit
theorem jPath_any (i k : Nat) (w : World) (hi : i ≤ 1000) (_hk : k ≤ 1000) : Calls Try.prog 105 #[.int .i64 i, .int .i64 k] w fun e w' => e = .returned (.bool (jPath i k)) ∧ Below w.heap.size w w' := by
  have hw1 : wrap64 ((i : Int) + 1) = ((i + 1 : Nat) : Int) := by rw [IntWalk.wrap64_in _ ⟨by omega, by omega⟩]; omega
  have HB := Lib.hid (show ((k : Int) == ((i + 1 : Nat) : Int)) = jPath i k by rw [jPath, Bool.eq_iff_iff, beq_iff_eq, decide_eq_true_eq]; omega)
  have HB2 := Lib.hid (show ((k : Int) == (i : Int) + 1) = jPath i k by rw [jPath, Bool.eq_iff_iff, beq_iff_eq, decide_eq_true_eq]; omega)
  go_enter Try.func105, Try.ntmps105
  go_wp2
  go_ret
  exact ⟨ret_bool (by first | exact HB.out | exact HB2.out), Below.refl _ _⟩
theorem jClaw_any (i k : Nat) (w : World) : Calls Try.prog 92 #[.int .i64 i, .int .i64 k] w fun e w' => e = .returned (.bool (jClaw i k)) ∧ Below w.heap.size w w' := by
  have HB := Lib.hid (show ((i : Int) == 0) = jClaw i k by rw [jClaw, Bool.eq_iff_iff, beq_iff_eq, decide_eq_true_eq]; omega)
  have HB2 := Lib.hid (show (decide (i = 0)) = jClaw i k from rfl)
  go_enter Try.func92, Try.ntmps92
  go_wp2
  go_ret
  exact ⟨ret_bool (by first | exact HB.out | exact HB2.out | (rw [← HB.out]; simp; done)), Below.refl _ _⟩
theorem jHole_any (B : Option Addr) (i k m d bL : Nat) (w : World) (hi : i ≤ 1000) (_hk : k ≤ 1000) (hm0 : 0 < m) (hm : m ≤ 1000) (hL : Blk w bL 22 #[.slice B m d]) : Calls Try.prog 85 #[.int .i64 i, .int .i64 k, .pointer (some ⟨bL, 0, none⟩)] w fun e w' => e = .returned (.bool (jHole m i k)) ∧ Below w.heap.size w w' := by
  have hy := hL.one
  have HJ := Lib.hid (show jHole m i k = (decide (k = i + 1) || (decide (i = 0) && decide (k = m - 1))) by
    rw [jHole]
    congr 2
    exact decide_eq_decide.2 (by omega))
  have hw1 : wrap64 ((i : Int) + 1) = (i : Int) + 1 := IntWalk.wrap64_in _ ⟨by omega, by omega⟩
  have hw2 : wrap64 ((m : Int) - 1) = (m : Int) - 1 := IntWalk.wrap64_in _ ⟨by omega, by omega⟩
  rw [HJ.out]
  clear HJ hL
  rcases Bool.eq_false_or_eq_true ((k : Int) == (i : Int) + 1) with b1 | b1
  · have H1 := Lib.hid (show (decide (k = i + 1) || (decide (i = 0) && decide (k = m - 1))) = true by
      rw [beq_iff_eq] at b1
      rw [decide_eq_true (by omega)]; rfl)
    go_enter Try.func85, Try.ntmps85
    go_wp2
    go_ret
    exact ⟨ret_bool H1.out.symm, Below.refl _ _⟩
  · have n1 : ¬ k = i + 1 := fun e => by rw [beq_eq_false_iff_ne] at b1; omega
    rw [decide_eq_false n1, Bool.false_or]
    clear n1
    rcases Bool.eq_false_or_eq_true ((i : Int) == 0) with b2 | b2
    · have n2 : i = 0 := by rw [beq_iff_eq] at b2; omega
      have H1 := Lib.hid (show ((k : Int) == (m : Int) - 1) = (decide (i = 0) && decide (k = m - 1)) by
        rw [decide_eq_true n2, Bool.true_and, Bool.eq_iff_iff, beq_iff_eq, decide_eq_true_eq]; omega)
      rcases Bool.eq_false_or_eq_true ((k : Int) == (m : Int) - 1) with b3 | b3
      all_goals
        have H2 := Lib.hid (b3.symm.trans H1.out)
        clear n2
        go_enter Try.func85, Try.ntmps85
        go_wp2
        go_ret
        exact ⟨ret_bool H2.out, Below.refl _ _⟩
    · have H1 := Lib.hid (show (decide (i = 0) && decide (k = m - 1)) = false by
        rw [beq_eq_false_iff_ne] at b2
        rw [decide_eq_false (by omega)]; rfl)
      go_enter Try.func85, Try.ntmps85
      go_wp2
      go_ret
      exact ⟨ret_bool H1.out.symm, Below.refl _ _⟩
set_option maxRecDepth 100000 in
set_option maxHeartbeats 1000000 in
theorem implIsPath_any (N : Int) (A B : Option Addr) (n c m d : Nat) (X l : List Int) (w : World) (hX : RI w A n X) (hL : RI w B m l) (hn : n ≤ 9223372036854775807) (hm : m ≤ 9223372036854775807) (hmd : m ≤ d) :
    Calls Try.prog 95 #[.agg #[.int .i64 N, .slice A n c], .slice B m d] w fun e w' => e = .returned (.bool (isPathL N X l)) ∧ Below w.heap.size w w' := by
  have hbk := Blk.new w 27 #[.int .i64 N, .slice A n c]
  have hyb := hbk.two
  have hU0 : Up w (w.alloc (.cells #[.int .i64 N, .slice A n c] 27)) := by go_grown
  have HL := Lib.hid hL.1
  by_cases h0 : 0 < m
  · have HR := Lib.hid (isPathL_ok (N := N) (X := X) (l := l) (by rw [HL.out]; exact h0))
    rw [HR.out]
    go_enter Try.func95, Try.ntmps95
    go_wp2_with fail
    refine (areJPath_any N A B n c m d X l jPath _ (hX.up hU0) (hL.up hU0) hn hm hmd (fun i k w' h1 h2 h3 _ => jPath_any i k w' (by omega) (by omega))).mono ?_
    rintro e w1 ⟨rfl, hb1⟩
    go_wp2
    go_ret
    exact ⟨rfl, Up.then_ hU0 hb1⟩
  · have HR := Lib.hid (isPathL_few (N := N) (X := X) (l := l) (by rw [HL.out]; exact h0))
    rw [HR.out]
    obtain rfl : m = 0 := by omega
    go_enter Try.func95, Try.ntmps95
    go_wp2
    go_ret
    exact ⟨rfl, hU0⟩
set_option maxRecDepth 100000 in
set_option maxHeartbeats 1000000 in
theorem implIsClaw_any (N : Int) (A B : Option Addr) (n c m d : Nat) (X l : List Int) (w : World) (hX : RI w A n X) (hL : RI w B m l) (hn : n ≤ 9223372036854775807) (hm : m ≤ 9223372036854775807) (hmd : m ≤ d) :
    Calls Try.prog 71 #[.agg #[.int .i64 N, .slice A n c], .slice B m d] w fun e w' => e = .returned (.bool (isClawL N X l)) ∧ Below w.heap.size w w' := by
  have hbk := Blk.new w 27 #[.int .i64 N, .slice A n c]
  have hyb := hbk.two
  have hU0 : Up w (w.alloc (.cells #[.int .i64 N, .slice A n c] 27)) := by go_grown
  have HL := Lib.hid hL.1
  by_cases h0 : m = 4
  · have HR := Lib.hid (isClawL_ok (N := N) (X := X) (l := l) (by rw [HL.out]; exact h0))
    rw [HR.out]
    subst h0
    go_enter Try.func71, Try.ntmps71
    go_wp2_with fail
    refine (areJClaw_any N A B n c 4 d X l jClaw _ (hX.up hU0) (hL.up hU0) hn hm hmd (fun i k w' h1 h2 h3 _ => jClaw_any i k w')).mono ?_
    rintro e w1 ⟨rfl, hb1⟩
    go_wp2
    go_ret
    exact ⟨rfl, Up.then_ hU0 hb1⟩
  · have HR := Lib.hid (isClawL_few (N := N) (X := X) (l := l) (by rw [HL.out]; exact h0))
    rw [HR.out]
    have e4 : ((m : Int) == 4) = false := by rw [beq_eq_false_iff_ne]; omega
    go_enter Try.func71, Try.ntmps71
    go_wp2
    go_ret
    exact ⟨rfl, hU0⟩
set_option maxRecDepth 100000 in
set_option maxRecDepth 100000 in
set_option maxHeartbeats 1000000 in
theorem implIsHole_any (N : Int) (A B : Option Addr) (n c m d : Nat) (X l : List Int) (w : World) (hX : RI w A n X) (hL : RI w B m l) (hn : n ≤ 9223372036854775807) (hm : m ≤ 9223372036854775807) (hmd : m ≤ d) :
    Calls Try.prog 67 #[.agg #[.int .i64 N, .slice A n c], .slice B m d] w fun e w' => e = .returned (.bool (isHoleL N X l)) ∧ Below w.heap.size w w' := by
  have hbk := (Blk.new w 27 #[.int .i64 N, .slice A n c]).alloc (.cells #[.slice B m d] 22)
  have hbl := Blk.new_at (w := w.alloc (.cells #[.int .i64 N, .slice A n c] 27)) (t := 22) (cs := #[.slice B m d]) (g := w.heap.size + 1) (by simp)
  have hyb := hbk.two
  have hyl := hbl.one
  have hU0 : Up w ((w.alloc (.cells #[.int .i64 N, .slice A n c] 27)).alloc (.cells #[.slice B m d] 22)) := by go_grown
  have HL := Lib.hid hL.1
  by_cases h0 : 4 ≤ m
  · have HR := Lib.hid (isHoleL_ok (N := N) (X := X) (l := l) (by rw [HL.out]; exact h0))
    rw [HR.out]
    have e4 : decide ((4 : Int) ≤ (m : Int)) = true := decide_eq_true (by omega)
    have hc := areJHole_any N A B n c m d (w.heap.size + 1) X l (jHole m) _ (hX.up hU0) (hL.up hU0) hn hm hmd (fun i k w' h1 h2 h3 hU' => jHole_any B i k m d _ w' (by omega) (by omega) (by omega) (by omega) (hbl.up hU'))
    rw [show jHole m = jHole l.length by rw [HL.out]] at hc
    have Hc := Lib.hid hc
    clear hc
    go_enter Try.func67, Try.ntmps67
    go_wp2_with fail
    refine Hc.out.mono ?_
    rintro e w1 ⟨rfl, hb1⟩
    go_wp2
    go_ret
    exact ⟨rfl, Up.then_ hU0 hb1⟩
  · have HR := Lib.hid (isHoleL_few (N := N) (X := X) (l := l) (by rw [HL.out]; exact h0))
    rw [HR.out]
    have e4 : decide ((4 : Int) ≤ (m : Int)) = false := decide_eq_false (by omega)
    go_enter Try.func67, Try.ntmps67
    go_wp2
    go_ret
    exact ⟨rfl, hU0⟩
end Go.Proofs.Ytlcmfangecbdgaa
