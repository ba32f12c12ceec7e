/- The copies, the sizes and the comparisons of a graph and of an orientation. -/
import Derived.Test.YtfodbgogeclifaaLaw
namespace Go.Proofs.Ytfodbgogeclifaa
open Go.RowKit
set_option maxRecDepth 100000
def NewNI (N : Int) (L : List Int) (n : Nat) (w : World) (e : Ending) (w' : World) : Prop :=
  ∃ g1, e = .returned (.agg #[.int .i64 N, .slice (some ⟨g1, 0, none⟩) n n]) ∧ w.heap.size ≤ g1 ∧ Blk w' g1 3 (L.map (Value.int .i64)).toArray ∧ Below w.heap.size w w'
def New1I (L : List Int) (n : Nat) (w : World) (e : Ending) (w' : World) : Prop :=
  ∃ g1, e = .returned (.agg #[.slice (some ⟨g1, 0, none⟩) n n]) ∧ w.heap.size ≤ g1 ∧ Blk w' g1 3 (L.map (Value.int .i64)).toArray ∧ Below w.heap.size w w'
theorem szGraph_ok (N : Int) (A : Option Addr) (n ca : Nat) (l : Int) (w : World) (h : (n : Int) ≤ l) (hl : l ≤ 1048576) :
    Calls Try.prog 30 #[.agg #[.int .i64 N, .slice A n ca], .int .i64 l] w fun e w' => e = .returned (.int .i64 (l - n)) ∧ Below w.heap.size w w' := by
  go_enter Try.func30, Try.ntmps30
  go_wp2_with fail
  refine (szIntS_ok _ _ _ _ _ (by omega) hl).mono ?_
  rintro e w1 ⟨rfl, rfl⟩
  go_wp2
  go_ret
  exact ⟨rfl, by go_grown⟩
theorem szGraph_big (N : Int) (A : Option Addr) (n ca : Nat) (l : Int) (w : World) (h : l < (n : Int)) (h0 : 0 ≤ l) (_hl : l ≤ 1048576) (hn : n ≤ 9223372036854775807) :
    Calls Try.prog 30 #[.agg #[.int .i64 N, .slice A n ca], .int .i64 l] w fun e w' => e = .returned (.int .i64 (-1)) ∧ Below w.heap.size w w' := by
  go_enter Try.func30, Try.ntmps30
  go_wp2_with fail
  refine (szIntS_big _ _ _ _ _ (by omega) (by omega) hn).mono ?_
  rintro e w1 ⟨rfl, rfl⟩
  go_wp2
  go_ret
  exact ⟨rfl, by go_grown⟩
theorem toGraph_any (N : Int) (A : Option Addr) (n ca : Nat) (L : List Int) (w : World) (hA : RI w A n L) (hn : n ≤ 1048576) :
    Calls Try.prog 32 #[.agg #[.int .i64 N, .slice A n ca]] w (NewNI N L n w) := by
  go_enter Try.func32, Try.ntmps32
  go_wp2_with fail
  refine (toIntS_any _ _ _ _ _ (hA.up (by go_grown)) hn).mono ?_
  rintro e w1 ⟨g1, rfl, hg1, hk1, hb1⟩
  have hw1 : Below w.heap.size w w1 := Up.then_ (by go_grown) hb1
  obtain ⟨hc1, hf1⟩ := bcell hb1
  have hz1 := hb1.size
  try simp only [World.size_alloc] at hz1
  try simp only [World.size_setCell] at hz1
  try simp only [World.size_alloc] at hz1
  try simp only [World.size_drew] at hz1
  have hl1_0 : w.heap.size < w1.heap.size := by omega
  have hl1_1 : w.heap.size + 1 < w1.heap.size := by omega
  have hl1_2 : w.heap.size + 1 + 1 < w1.heap.size := by omega
  try simp only [World.size_alloc] at hg1
  try simp only [World.size_setCell] at hg1
  try simp only [World.size_alloc] at hg1
  try simp only [World.size_drew] at hg1
  have hl := hk1.lt
  go_wp2
  refine bodyPost_ret (v := .agg #[.int .i64 N, .slice (some ⟨g1, 0, none⟩) n n]) ?_ rfl ?_
  · simp [results, Try.results32, go_sem, hc1]
  refine ⟨g1, rfl, by omega, ?_, by go_grown⟩
  · exact ((hk1.far (by simp; omega) _).far (by simp; omega) _).far (by simp; omega) _
theorem eqGraph_any (N M : Int) (A B : Option Addr) (n m ca cb : Nat) (L R : List Int) (w : World) (hA : RI w A n L) (hB : RI w B m R) (hn : n ≤ 9223372036854775807) :
    Calls Try.prog 34 #[.agg #[.int .i64 N, .slice A n ca], .agg #[.int .i64 M, .slice B m cb]] w fun e w' => e = .returned (.bool (decide (N = M) && decide (L = R))) ∧ Below w.heap.size w w' := by
  by_cases h0 : N = M
  · subst h0
    go_enter Try.func34, Try.ntmps34
    go_wp2_with fail
    refine (eqIntS_any _ _ _ _ _ _ _ _ _ (hA.up (by go_grown)) (hB.up (by go_grown)) hn).mono ?_
    rintro e w1 ⟨rfl, hb1⟩
    have hw1 : Below w.heap.size w w1 := Up.then_ (by go_grown) hb1
    obtain ⟨hc1, hf1⟩ := bcell hb1
    have hz1 := hb1.size
    try simp only [World.size_alloc] at hz1
    try simp only [World.size_setCell] at hz1
    try simp only [World.size_alloc] at hz1
    try simp only [World.size_drew] at hz1
    have hl1_0 : w.heap.size < w1.heap.size := by omega
    have hl1_1 : w.heap.size + 1 < w1.heap.size := by omega
    go_wp2
    · go_ret
      have h : (!decide (L = R)) = true := by assumption
      refine ⟨ret_bool ?_, by go_grown⟩
      simpa using h
    · go_ret
      have h : (!decide (L = R)) = false := by assumption
      refine ⟨ret_bool ?_, by go_grown⟩
      simpa using h
  · have e1 : (N != M) = true := by simpa using h0
    go_enter Try.func34, Try.ntmps34
    go_wp2
    go_ret
    refine ⟨ret_bool ?_, by go_grown⟩
    simp [h0]