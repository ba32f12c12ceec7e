/- The marks that a law lays into structs, and their reading. -/
import Derived.Test.YtlcmfangecbdgaaLaw3
namespace Go.Proofs.Ytlcmfangecbdgaa
open Go.RowKit
set_option maxRecDepth 100000
theorem grown_of_up {B : Nat} {w w' : World} {row : Option Nat} (hb : Below B w w') (hB : w.heap.size ≤ B) : w.grownBy w' row := ⟨hb.os, hb.tape, hb.output, Nat.le_trans (by exact Nat.le_refl _) hb.size, fun i hi _ => hb.block i (Nat.lt_of_lt_of_le hi hB)⟩
theorem markGraph_own (N : Int) (A : Option Addr) (n c k base : Nat) (xs : List Int) (w : World) (h : OwnI w base A n c xs) (hk : k ≤ 4194304) (hn : n ≤ 1048576) :
    Calls Try.prog 22 #[.agg #[.int .i64 N, .slice A n c], .int .i64 k] w fun e w' => e = .returned (.int .i64 ((k + n : Nat) : Int)) ∧ OwnI w' base A n c (marks k n) ∧ w.grownBy w' (Value.slice A n c).ownBlock := by
  go_enter Try.func22, Try.ntmps22
  go_wp2_with fail
  refine (markIntS_any A n c k base xs _ (h.alloc _) hk hn).mono ?_
  rintro e w1 ⟨rfl, hown, hg⟩
  have hgg := (World.grownBy_alloc w (.cells #[.int .i64 N, .slice A n c] 27) (Value.slice A n c).ownBlock).trans hg
  go_wp2
  go_ret
  exact ⟨rfl, hown, hgg⟩