/- Walks of chapter 9: is it a model of a graph. -/
import Derived.Test.YtcaoelihmkbedaaW9c
import Derived.Test.YtcaoelihmkbedaaSl
namespace Go.Proofs.Ytcaoelihmkbedaa
open Go.RowKit
def sameGraph (N M : Int) (xs ys : List Int) : Bool := decide (N = M) && decide (xs = ys)
theorem sameGraph_no {N M : Int} {xs ys : List Int} (h : N ≠ M) : sameGraph N M xs ys = false := by rw [sameGraph, decide_eq_false h]; rfl
theorem sameGraph_yes {N : Int} {xs ys : List Int} : sameGraph N N xs ys = decide (xs = ys) := by rw [sameGraph, decide_eq_true rfl]; rfl
set_option maxHeartbeats 1000000 in
theorem implEqualGraphs_any (N M : Int) (A B : Option Addr) (n m ca cb : Nat) (xs ys : List Int) (w : World) (hA : RI w A n xs) (hB : RI w B m ys) (hn : n ≤ 9223372036854775807) :
    Calls Try.prog 86 #[.agg #[.int .i64 N, .slice A n ca], .agg #[.int .i64 M, .slice B m cb]] w fun e w' => e = .returned (.bool (sameGraph N M xs ys)) ∧ Below w.heap.size w w' := by
  by_cases hNM : N = M
  · subst hNM
    have HS := Lib.hid (sameGraph_yes (N := N) (xs := xs) (ys := ys))
    go_enter Try.func86, Try.ntmps86
    go_wp2_with fail
    refine (slEqual_any A B n m ca cb xs ys _ (hA.up (by go_grown)) (hB.up (by go_grown)) hn).mono ?_
    rintro e w1 ⟨rfl, hb1⟩
    have hU1 : Up w w1 := Up.then_ (by go_grown) hb1
    go_wp2
    go_ret
    exact ⟨ret_bool HS.out.symm, hU1⟩
  · have HS := Lib.hid (sameGraph_no (xs := xs) (ys := ys) hNM)
    have hne : (N == M) = false := by rw [beq_eq_false_iff_ne]; exact hNM
    clear hNM
    go_enter Try.func86, Try.ntmps86
    go_wp2
    go_ret
    exact ⟨ret_bool HS.out.symm, by go_grown⟩
set_option maxHeartbeats 1000000 in
theorem specEqualGraphs_any (N M : Int) (A B : Option Addr) (n m ca cb : Nat) (xs ys : List Int) (w : World) (hA : RI w A n xs) (hB : RI w B m ys) (hn : n ≤ 9223372036854775807) :
    Calls Try.prog 85 #[.agg #[.int .i64 N, .slice A n ca], .agg #[.int .i64 M, .slice B m cb]] w fun e w' => e = .returned (.bool (sameGraph N M xs ys)) ∧ Below w.heap.size w w' := by
  have HX := Lib.hid hA.1
  have HY := Lib.hid hB.1
  by_cases hNM : N = M
  · subst hNM
    have HS := Lib.hid (sameGraph_yes (N := N) (xs := xs) (ys := ys))
    by_cases hnm : n = m
    · subst hnm
      have hb0 := (Blk.new w 27 #[.int .i64 N, .slice A n ca]).alloc (.cells #[.int .i64 N, .slice B n cb] 27)
      have hb1 := Blk.new_at (w := w.alloc (.cells #[.int .i64 N, .slice A n ca] 27)) (t := 27) (cs := #[.int .i64 N, .slice B n cb]) (g := w.heap.size + 1) (by simp)
      go_enter Try.func85, Try.ntmps85
      go_wp2_with fail
      go_loopw [5] (fun i wr => ∃ k : Nat, k ≤ n ∧ i = .int .i64 k ∧ Blk wr w.heap.size 27 #[.int .i64 N, .slice A n ca] ∧ Blk wr (w.heap.size + 1) 27 #[.int .i64 N, .slice B n cb] ∧ Below w.heap.size w wr ∧ Hid (∀ j, j < k → xs.getD j 0 = ys.getD j 0)) (fun i _ => n - (intOf i).toNat)
      case atStart => exact ⟨0, Nat.zero_le _, rfl, hb0, hb1, by go_grown, fun j h => absurd h (by omega)⟩
      case round =>
        clear hb0 hb1
        obtain ⟨k, hk, rfl, hb0, hb1, hb, hall⟩ := hrel
        have hy0 := hb0.two
        have hy1 := hb1.two
        by_cases hlt : k < n
        · obtain ⟨a, rfl, ha, hca⟩ := (hA.up hb).at_ hlt
          obtain ⟨b, rfl, hb', hcb⟩ := (hB.up hb).at_ hlt
          go_wp2_with fail
          go_quiet (fail)
          go_wp2
          · go_ret
            have h : (xs[k]?.getD 0 != ys[k]?.getD 0) = true := by assumption
            exact ⟨ret_bool (HS.out.trans (list_ne_at (k := k) (by simpa using h))).symm, below_drewN hb _⟩
          · have h : (xs[k]?.getD 0 != ys[k]?.getD 0) = false := by assumption
            go_roundw
            case rel => exact ⟨k + 1, by omega, by go_num, hb0.drewN _, hb1.drewN _, below_drewN hb _, fun j hj => by
              rcases Nat.lt_succ_iff_lt_or_eq.1 hj with h' | rfl
              · exact hall.out j h'
              · simpa using h⟩
            case measure => simp [intOf]; omega
        · obtain rfl : k = n := by omega
          go_wp2
          go_ret
          exact ⟨ret_bool (HS.out.trans (list_eq_of HX.out HY.out hall.out)).symm, hb⟩
    · have e : ((n : Int) != m) = true := by simp; omega
      go_enter Try.func85, Try.ntmps85
      go_wp2
      go_ret
      exact ⟨ret_bool (HS.out.trans (list_ne_len HX.out HY.out hnm)).symm, by go_grown⟩
  · have HS := Lib.hid (sameGraph_no (xs := xs) (ys := ys) hNM)
    have hne : (N != M) = true := by rw [bne_iff_ne]; exact hNM
    clear hNM
    go_enter Try.func85, Try.ntmps85
    go_wp2
    go_ret
    exact ⟨ret_bool HS.out.symm, by go_grown⟩
def isModelOf (N : Int) (X L R : List Int) : Bool := isModel L R && sameGraph (goiNum L R) N (goiRows L R) X
theorem isModelOf_no {N : Int} {X L R : List Int} (h : isModel L R = false) : isModelOf N X L R = false := by rw [isModelOf, h]; rfl
theorem isModelOf_yes {N : Int} {X L R : List Int} (h : isModel L R = true) : isModelOf N X L R = sameGraph (goiNum L R) N (goiRows L R) X := by rw [isModelOf, h]; rfl
set_option maxHeartbeats 1000000 in
theorem implIsModelOf_any (N : Int) (C : Option Addr) (k cc : Nat) (X : List Int) (A B : Option Addr) (n m ca cb : Nat) (L R : List Int) (w : World) (hX : RI w C k X) (hL : RI w A n L) (hR : RI w B m R) (hn : n ≤ 1048576) (hm : m ≤ 1048576) :
    Calls Try.prog 50 #[.agg #[.int .i64 N, .slice C k cc], .agg #[.slice A n ca, .slice B m cb]] w fun e w' => e = .returned (.bool (isModelOf N X L R)) ∧ Below w.heap.size w w' := by
  have hlen := goiRows_len L R
  rcases Bool.eq_false_or_eq_true (isModel L R) with hg | hg
  · have HR := Lib.hid (isModelOf_yes (N := N) (X := X) hg)
    have Hg := Lib.hid hg
    clear hg
    go_enter Try.func50, Try.ntmps50
    go_wp2_with fail
    refine (implGraphOfIntervals_any A B n m ca cb L R _ (hL.up (by go_grown)) (hR.up (by go_grown)) hn hm).mono ?_
    rintro e w1 ⟨D, d, rfl, hown, hb1⟩
    have hU1 : Up w w1 := Up.then_ (by go_grown) hb1
    replace hX := hX.up hU1
    have hb0 := ((Blk.new w 27 #[.int .i64 N, .slice C k cc]).alloc (.cells #[.slice A n ca, .slice B m cb] 51)).up hb1
    have hy0 := hb0.two
    have hl0 := hb0.lt
    rw [Hg.out]
    go_wp2_with fail
    refine (implEqualGraphs_any _ _ _ _ _ _ _ _ (goiRows L R) X _ (hown.ri.up (by go_grown)) (hX.up (by go_grown)) (by omega)).mono ?_
    rintro e w2 ⟨rfl, hb2⟩
    have hU2 : Up w1 w2 := Up.then_ (by go_grown) hb2
    replace hX := hX.up hU2
    have hw2 := Up.then_ hU1 hU2
    go_wp2
    go_ret
    exact ⟨ret_bool HR.out.symm, hw2⟩
  · have HR := Lib.hid (isModelOf_no (N := N) (X := X) hg)
    have Hg := Lib.hid hg
    clear hg
    go_enter Try.func50, Try.ntmps50
    go_wp2_with fail
    refine (implGraphOfIntervals_any A B n m ca cb L R _ (hL.up (by go_grown)) (hR.up (by go_grown)) hn hm).mono ?_
    rintro e w1 ⟨D, d, rfl, hown, hb1⟩
    have hU1 : Up w w1 := Up.then_ (by go_grown) hb1
    rw [Hg.out]
    go_wp2
    go_ret
    exact ⟨ret_bool HR.out.symm, hU1.alloc hU1.size _⟩
set_option maxHeartbeats 1000000 in
theorem specIsModelOf_any (N : Int) (C : Option Addr) (k cc : Nat) (X : List Int) (A B : Option Addr) (n m ca cb : Nat) (L R : List Int) (w : World) (hX : RI w C k X) (hL : RI w A n L) (hR : RI w B m R) (hn : n ≤ 1048576) (hm : m ≤ 1048576) :
    Calls Try.prog 49 #[.agg #[.int .i64 N, .slice C k cc], .agg #[.slice A n ca, .slice B m cb]] w fun e w' => e = .returned (.bool (isModelOf N X L R)) ∧ Below w.heap.size w w' := by
  have hlen := goiRows_len L R
  rcases Bool.eq_false_or_eq_true (isModel L R) with hg | hg
  · have HR := Lib.hid (isModelOf_yes (N := N) (X := X) hg)
    have Hg := Lib.hid hg
    clear hg
    go_enter Try.func49, Try.ntmps49
    go_wp2_with fail
    refine (specGraphOfIntervals_any A B n m ca cb L R _ (hL.up (by go_grown)) (hR.up (by go_grown)) hn hm).mono ?_
    rintro e w1 ⟨D, d, rfl, hown, hb1⟩
    have hU1 : Up w w1 := Up.then_ (by go_grown) hb1
    replace hX := hX.up hU1
    have hb0 := ((Blk.new w 27 #[.int .i64 N, .slice C k cc]).alloc (.cells #[.slice A n ca, .slice B m cb] 51)).up hb1
    have hy0 := hb0.two
    have hl0 := hb0.lt
    rw [Hg.out]
    go_wp2_with fail
    refine (specEqualGraphs_any _ _ _ _ _ _ _ _ (goiRows L R) X _ (hown.ri.up (by go_grown)) (hX.up (by go_grown)) (by omega)).mono ?_
    rintro e w2 ⟨rfl, hb2⟩
    have hU2 : Up w1 w2 := Up.then_ (by go_grown) hb2
    replace hX := hX.up hU2
    have hw2 := Up.then_ hU1 hU2
    go_wp2
    go_ret
    exact ⟨ret_bool HR.out.symm, hw2⟩
  · have HR := Lib.hid (isModelOf_no (N := N) (X := X) hg)
    have Hg := Lib.hid hg
    clear hg
    go_enter Try.func49, Try.ntmps49
    go_wp2_with fail
    refine (specGraphOfIntervals_any A B n m ca cb L R _ (hL.up (by go_grown)) (hR.up (by go_grown)) hn hm).mono ?_
    rintro e w1 ⟨D, d, rfl, hown, hb1⟩
    have hU1 : Up w w1 := Up.then_ (by go_grown) hb1
    rw [Hg.out]
    go_wp2
    go_ret
    exact ⟨ret_bool HR.out.symm, hU1.alloc hU1.size _⟩
end Go.Proofs.Ytcaoelihmkbedaa
