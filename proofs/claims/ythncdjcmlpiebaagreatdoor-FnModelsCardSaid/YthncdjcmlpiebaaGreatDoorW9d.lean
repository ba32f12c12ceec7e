/- Walks of chapter 9: is it a model of a graph. -/
import Derived.Test.YthncdjcmlpiebaaGreatDoorW9c
import Derived.Test.YthncdjcmlpiebaaGreatDoorSl
namespace Go.Proofs.YthncdjcmlpiebaaGreatDoor
open Go.RowKit
def sameGraph (N M : Int) (xs ys : List Int) : Bool := decide (N = M) && decide (xs = ys)
set_option maxRecDepth 100000 in
theorem sameGraph_no {N M : Int} {xs ys : List Int} (h : N ≠ M) : sameGraph N M xs ys = false := by rw [sameGraph, decide_eq_false h]; rfl
set_option maxRecDepth 100000 in
theorem sameGraph_yes {N : Int} {xs ys : List Int} : sameGraph N N xs ys = decide (xs = ys) := by rw [sameGraph, decide_eq_true rfl]; rfl
set_option maxRecDepth 100000 in
set_option maxHeartbeats 1000000 in
theorem specEqualGraphs_any (N M : Int) (A B : Option Addr) (n m ca cb : Nat) (xs ys : List Int) (w : World) (hA : RI w A n xs) (hB : RI w B m ys) (hn : n ≤ 9223372036854775807) :
    Calls Tryz.prog 13 #[.agg #[.int .i64 N, .slice A n ca], .agg #[.int .i64 M, .slice B m cb]] w fun e w' => e = .returned (.bool (sameGraph N M xs ys)) ∧ Below w.heap.size w w' := by
  have HX := Lib.hid hA.1
  have HY := Lib.hid hB.1
  by_cases hNM : N = M
  · subst hNM
    have HS := Lib.hid (sameGraph_yes (N := N) (xs := xs) (ys := ys))
    by_cases hnm : n = m
    · subst hnm
      have hb0 := (Blk.new w 29 #[.int .i64 N, .slice A n ca]).alloc (.cells #[.int .i64 N, .slice B n cb] 29)
      have hb1 := Blk.new_at (w := w.alloc (.cells #[.int .i64 N, .slice A n ca] 29)) (t := 29) (cs := #[.int .i64 N, .slice B n cb]) (g := w.heap.size + 1) (by simp)
      go_enter Tryz.func13, Tryz.ntmps13
      go_wp2_with fail
      go_loopw [5] (fun i wr => ∃ k : Nat, k ≤ n ∧ i = .int .i64 k ∧ Blk wr w.heap.size 29 #[.int .i64 N, .slice A n ca] ∧ Blk wr (w.heap.size + 1) 29 #[.int .i64 N, .slice B n cb] ∧ Below w.heap.size w wr ∧ Hid (∀ j, j < k → xs.getD j 0 = ys.getD j 0)) (fun i _ => n - (intOf i).toNat)
      case atStart => exact ⟨0, Nat.zero_le _, rfl, hb0, hb1, by go_grown, fun j h => absurd h (by omega)⟩
      case round =>
        clear hb0 hb1
        obtain ⟨k, hk, rfl, hb0, hb1, hb, hall⟩ := hrel
        have hy0 := hb0.two
        have hy1 := hb1.two
        by_cases hlt : k < n
        · obtain ⟨a, rfl, ha, hca⟩ := (hA.up hb).at_ hlt
          obtain ⟨b, rfl, hb', hcb⟩ := (hB.up hb).at_ hlt
          go_wp2_with fail
          go_quiet (fail)
          go_wp2
          · go_ret
            have h : (xs[k]?.getD 0 != ys[k]?.getD 0) = true := by assumption
            exact ⟨ret_bool (HS.out.trans (list_ne_at (k := k) (by simpa using h))).symm, below_drewN hb _⟩
          · have h : (xs[k]?.getD 0 != ys[k]?.getD 0) = false := by assumption
            go_roundw
            case rel => exact ⟨k + 1, by omega, by go_num, hb0.drewN _, hb1.drewN _, below_drewN hb _, fun j hj => by
              rcases Nat.lt_succ_iff_lt_or_eq.1 hj with h' | rfl
              · exact hall.out j h'
              · simpa using h⟩
            case measure => simp [intOf]; omega
        · obtain rfl : k = n := by omega
          go_wp2
          go_ret
          exact ⟨ret_bool (HS.out.trans (list_eq_of HX.out HY.out hall.out)).symm, hb⟩
    · have e : ((n : Int) != m) = true := by simp; omega
      go_enter Tryz.func13, Tryz.ntmps13
      go_wp2
      go_ret
      exact ⟨ret_bool (HS.out.trans (list_ne_len HX.out HY.out hnm)).symm, by go_grown⟩
  · have HS := Lib.hid (sameGraph_no (xs := xs) (ys := ys) hNM)
    have hne : (N != M) = true := by rw [bne_iff_ne]; exact hNM
    clear hNM
    go_enter Tryz.func13, Tryz.ntmps13
    go_wp2
    go_ret
    exact ⟨ret_bool HS.out.symm, by go_grown⟩
def isModelOf (N : Int) (X L R : List Int) : Bool := isModel L R && sameGraph (goiNum L R) N (goiRows L R) X
set_option maxRecDepth 100000 in
theorem isModelOf_no {N : Int} {X L R : List Int} (h : isModel L R = false) : isModelOf N X L R = false := by rw [isModelOf, h]; rfl
set_option maxRecDepth 100000 in
theorem isModelOf_yes {N : Int} {X L R : List Int} (h : isModel L R = true) : isModelOf N X L R = sameGraph (goiNum L R) N (goiRows L R) X := by rw [isModelOf, h]; rfl