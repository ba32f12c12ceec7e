/- Walks of chapter 8: the graph of a tree of bags. -/
import Derived.Test.YtnaoomchekhcgaaW8
import Derived.Test.YtnaoomchekhcgaaW2b
import Derived.Test.YtnaoomchekhcgaaW3b
import Derived.Test.YtnaoomchekhcgaaW9c
import Derived.Test.YtnaoomchekhcgaaW12
import Derived.Test.YtnaoomchekhcgaaGives
import Derived.Test.YtnaoomchekhcgaaNat
import Derived.Test.YtnaoomchekhcgaaPure8t
namespace Go.Proofs.Ytnaoomchekhcgaa
open Go.RowKit
theorem implIsTree_is {A B : Option Addr} {n m ca cb : Nat} {L R : List Int} {w : World} {b : Bool} (hL : RI w A n L) (hR : RI w B m R) (hn : n ≤ 1048576) (hm : m ≤ 1048576) (h : isTree L R = b) :
    Calls Try.prog 60 #[.agg #[.slice A n ca, .slice B m cb]] w fun e w' => e = .returned (.bool b) ∧ Below w.heap.size w w' := by subst h; exact implIsTree_any A B n m ca cb L R w hL hR hn hm
theorem specIsTree_is {A B : Option Addr} {n m ca cb : Nat} {L R : List Int} {w : World} {b : Bool} (hL : RI w A n L) (hR : RI w B m R) (hn : n ≤ 1048576) (hm : m ≤ 1048576) (h : isTree L R = b) :
    Calls Try.prog 58 #[.agg #[.slice A n ca, .slice B m cb]] w fun e w' => e = .returned (.bool b) ∧ Below w.heap.size w w' := by subst h; exact specIsTree_any A B n m ca cb L R w hL hR hn hm
theorem within_is {n lo hi : Int} {w : World} (h : lo ≤ n ∧ n ≤ hi) : Calls Try.prog 83 #[.int .i64 n, .int .i64 lo, .int .i64 hi] w fun e w' => e = .returned (.bool true) ∧ w = w' := within_yes _ _ _ _ h
/-- A bag among n vertices, by its bits behind them. -/
theorem shr_bag {b n : Nat} : (b : Int) / 2 ^ n = ((b / p2 n : Nat) : Int) := by
  have h2 : ((2 : Int) ^ n) = ((p2 n : Nat) : Int) := by unfold p2; norm_cast
  rw [h2]; norm_cast
theorem bag_in {b n : Nat} (h : b < 2 ^ n) : b / p2 n = 0 := Nat.div_eq_of_lt h
theorem bag_out {b n : Nat} (h : ¬ b < 2 ^ n) : 1 ≤ b / p2 n := (Nat.one_le_div_iff (p2_pos n)).2 (by unfold p2; omega)