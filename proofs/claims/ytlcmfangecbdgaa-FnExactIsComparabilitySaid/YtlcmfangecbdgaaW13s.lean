/- Walks of chapter 13: IsComparability, both. -/
import Derived.Test.YtlcmfangecbdgaaW13p
import Derived.Test.YtlcmfangecbdgaaW13r
namespace Go.Proofs.Ytlcmfangecbdgaa
open Go.RowKit
set_option maxHeartbeats 1000000 in
theorem implIsComparability_any (N : Int) (A : Option Addr) (n c : Nat) (X : List Int) (w : World) (hX : RI w A n X) (hn : n ≤ 1048576) :
    Calls Try.prog 42 #[.agg #[.int .i64 N, .slice A n c]] w fun e w' => e = .returned (.bool (isComp N X)) ∧ Below w.heap.size w w' := by
  have hU0 : Up w (w.alloc (.cells #[.int .i64 N, .slice A n c] 27)) := by go_grown
  obtain ⟨R, hR⟩ : ∃ R, R = isComp N X := ⟨_, rfl⟩
  have HR := Lib.hid hR
  rw [← hR]
  clear hR
  go_enter Try.func42, Try.ntmps42
  go_wp2_with fail
  refine (implOrientationOf_flag N A n c X _ (hX.up hU0) hn).mono ?_
  rintro e w1 ⟨A', k, c', rfl, hb1⟩
  rw [← HR.out]
  have hU1 := Up.then_ hU0 hb1
  have hbs := hU1.alloc hU1.size (.cells #[.slice A' k c'] 61)
  go_wp2
  go_ret
  exact ⟨rfl, hbs⟩
set_option maxHeartbeats 1000000 in
theorem specIsComparability_any (N : Int) (A : Option Addr) (n c : Nat) (X : List Int) (w : World) (hX : RI w A n X) (hn : n ≤ 1048576) :
    Calls Try.prog 41 #[.agg #[.int .i64 N, .slice A n c]] w fun e w' => e = .returned (.bool (isComp N X)) ∧ Below w.heap.size w w' := by
  have hU0 : Up w (w.alloc (.cells #[.int .i64 N, .slice A n c] 27)) := by go_grown
  obtain ⟨R, hR⟩ : ∃ R, R = isComp N X := ⟨_, rfl⟩
  have HR := Lib.hid hR
  rw [← hR]
  clear hR
  go_enter Try.func41, Try.ntmps41
  go_wp2_with fail
  refine (specOrientationOf_flag N A n c X _ (hX.up hU0) hn).mono ?_
  rintro e w1 ⟨A', k, c', rfl, hb1⟩
  rw [← HR.out]
  have hU1 := Up.then_ hU0 hb1
  have hbs := hU1.alloc hU1.size (.cells #[.slice A' k c'] 61)
  go_wp2
  go_ret
  exact ⟨rfl, hbs⟩
end Go.Proofs.Ytlcmfangecbdgaa
