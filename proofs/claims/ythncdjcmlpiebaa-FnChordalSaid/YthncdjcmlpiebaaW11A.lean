/- Walks of chapter 11: the shortest way within a set, the program's. Walks of chapter 11: the path that avoids a vertex, the program's; triples. Walks of chapter 11: the path that avoids a vertex, the reference's. -/
import Derived.Test.YthncdjcmlpiebaaW5A
import Derived.Test.YthncdjcmlpiebaaBasA
import Derived.Test.YthncdjcmlpiebaaPurA
import Derived.Test.YthncdjcmlpiebaaW3A
import Derived.Test.YthncdjcmlpiebaaW7A
import Derived.Deep.LoopGhost
import Derived.Deep.RegionWith
import Derived.Deep.RegionHeld3
namespace Go.Proofs.Ythncdjcmlpiebaa
open Go.RowKit
/-- The layers 0 to k. -/
def layL (Q : List Nat) (S x k : Nat) : List Nat := (List.range (k + 1)).map (lay Q S x)
theorem layL_len (Q : List Nat) (S x k : Nat) : (layL Q S x k).length = k + 1 := by simp [layL]
theorem layL_succ (Q : List Nat) (S x k : Nat) : layL Q S x (k + 1) = layL Q S x k ++ [lay Q S x (k + 1)] := by
  unfold layL
  rw [List.range_succ, List.map_append]
  rfl
theorem layL_at {Q : List Nat} {S x k j : Nat} (h : j ≤ k) : nb (layL Q S x k) j = lay Q S x j := by
  rw [nb, layL]
  simp [List.getD, show j < k + 1 by omega]
theorem grow_less {Q : List Nat} {S x k : Nat} (h : sub x S) (h0 : lay Q S x (k + 1) ≠ 0) : grow Q S x k < grow Q S x (k + 1) := by
  refine Nat.lt_of_le_of_ne (sub_le (grow_step h k)) fun e => h0 ?_
  rw [lay, ← e]
  apply Nat.eq_of_testBit_eq
  intro i
  rw [testBit_dif, Nat.zero_testBit]
  cases (grow Q S x k).testBit i <;> rfl
theorem one_own {w : World} {g : Nat} (h : w.heap.size = g) {base : Nat} (hb : base ≤ g) (x : Int) : OwnI (w.alloc (.cells #[.int .i64 x] 3)) base (some ⟨g, 0, none⟩) 1 1 [x] := (OwnI.of_blk (L := [x]) (Blk.new_at h) rfl (by simp)).more hb
end Go.Proofs.Ythncdjcmlpiebaa
namespace Go.Proofs.Ythncdjcmlpiebaa
open Go.RowKit
theorem avoid_cases (N : Int) (X : List Int) (a b c : Int) : (avoidOf N X a b c = none ∧ (isGraph N X = false ∨ isGraph N X = true ∧ ¬ ((0 ≤ a ∧ a < N) ∧ (0 ≤ b ∧ b < N) ∧ 0 ≤ c ∧ c < N))) ∨
    ∃ (n i j k : Nat) (Q : List Nat), N = n ∧ X = ints Q ∧ a = i ∧ b = j ∧ c = k ∧ GOk n Q ∧ i < n ∧ j < n ∧ k < n := by
  rcases isGraph_cases N X with h | ⟨n, Q, rfl, rfl, h⟩
  · exact .inl ⟨avoidOf_no h, .inl h⟩
  · by_cases hs : (0 ≤ a ∧ a < (n : Int)) ∧ (0 ≤ b ∧ b < (n : Int)) ∧ 0 ≤ c ∧ c < (n : Int)
    · exact .inr ⟨n, a.toNat, b.toNat, c.toNat, Q, rfl, rfl, by omega, by omega, by omega, h, by omega, by omega, by omega⟩
    · exact .inl ⟨avoidOf_out hs, .inr ⟨h.is, hs⟩⟩
theorem allIn3 (N a b c : Int) : allIn N [a, b, c] = decide ((0 ≤ a ∧ a < N) ∧ (0 ≤ b ∧ b < N) ∧ 0 ≤ c ∧ c < N) := by
  rw [Bool.eq_iff_iff, decide_eq_true_eq]
  simp [allIn]
theorem lit3_ri {w : World} {g : Nat} (h : w.heap.size = g) (a b c : Int) : RI (w.alloc (.cells #[.int .i64 a, .int .i64 b, .int .i64 c] 3)) (some ⟨g, 0, none⟩) 3 [a, b, c] := by
  subst h
  exact (Blk.new w 3 #[.int .i64 a, .int .i64 b, .int .i64 c]).ri (xs := [a, b, c]) rfl
end Go.Proofs.Ythncdjcmlpiebaa
namespace Go.Proofs.Ythncdjcmlpiebaa
open Go.RowKit
/-- Where each vertex was met so far: the first v are up to date with step k. -/
def farM (Q : List Nat) (S x n k v : Nat) : List Int := (List.range n).map fun u => if u < v then farK Q S x u (k + 1) else farK Q S x u k
theorem farM_len (Q : List Nat) (S x n k v : Nat) : (farM Q S x n k v).length = n := by simp [farM]
theorem farM_at {Q : List Nat} {S x n k v u : Nat} (h : u < n) : (farM Q S x n k v).getD u 0 = if u < v then farK Q S x u (k + 1) else farK Q S x u k := by simp [farM, List.getD, h]
theorem farM_next (Q : List Nat) (S x n k : Nat) : farM Q S x n k n = farM Q S x n (k + 1) 0 := by
  apply List.map_congr_left
  intro u hu
  rw [if_pos (List.mem_range.1 hu), if_neg (by omega)]
theorem farM_start (Q : List Nat) (S x n : Nat) : farM Q S x n 0 0 = List.replicate n (-1) := by
  apply List.ext_getElem
  · simp [farM]
  · intro i h1 h2
    simp [farM, farK]
theorem farM_keep {Q : List Nat} {S x n k v : Nat} (h : farK Q S x v (k + 1) = farK Q S x v k) : farM Q S x n k (v + 1) = farM Q S x n k v := by
  apply List.map_congr_left
  intro u _
  by_cases e : u = v
  · subst e
    rw [if_pos (by omega), if_neg (by omega), h]
  · by_cases h1 : u < v
    · rw [if_pos h1, if_pos (by omega)]
    · rw [if_neg h1, if_neg (by omega)]
theorem farM_put {Q : List Nat} {S x n k v : Nat} {z : Int} (h : farK Q S x v (k + 1) = z) (_hv : v < n) : (farM Q S x n k v).set v z = farM Q S x n k (v + 1) := by
  apply List.ext_getElem
  · simp [farM]
  · intro i h1 h2
    rw [List.getElem_set]
    simp only [farM, List.getElem_map, List.getElem_range]
    by_cases e : v = i
    · subst e
      rw [if_pos rfl, if_pos (by omega), h]
    · rw [if_neg e]
      by_cases h1 : i < v
      · rw [if_pos h1, if_pos (by omega)]
      · rw [if_neg h1, if_neg (by omega)]
theorem farM_end {Q : List Nat} {S x n u : Nat} (h : u < n) : (farM Q S x n n 0).getD u 0 = farK Q S x u n := by rw [farM_at h, if_neg (by omega)]
theorem givesIB_len {q : List Nat} {m : Nat} {w w' : World} {A : Option Addr} {c base : Nat} (hm : m = q.length) (h : OwnI w' base A m c (ints q)) (hbase : w.heap.size ≤ base) (hb : Below w.heap.size w w') : GivesIB (ints q) true w (.returned (.tuple #[.slice A m c, .bool true])) w' := by
  subst hm; exact givesIB_some h hbase hb
end Go.Proofs.Ythncdjcmlpiebaa
