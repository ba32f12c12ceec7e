/- Chapter 12, plain: the least left ends of a unit model, reckoned in two ways. No program in sight. -/
import Derived.Test.YtfodbgogeclifaaPure12
import Derived.Test.YtfodbgogeclifaaPure2b
import Derived.Test.YtfodbgogeclifaaPure5
namespace Go.Proofs.Ytfodbgogeclifaa
/-! The reference's way: J says which places of the order are neighbours; x holds the left ends by place. -/
def slst (J : Nat → Nat → Bool) (x : List Nat) (i k : Nat) : Nat := if k < i then (if J k i then nb x k else nb x k + 8) else if i < k ∧ J i k = true then nb x k - 7 else 0
def stK (J : Nat → Nat → Bool) (x : List Nat) (i : Nat) : Nat → List Nat
  | 0 => x
  | k + 1 => (stK J x i k).set i (max (nb (stK J x i k) i) (slst J (stK J x i k) i k))
def stI (J : Nat → Nat → Bool) (n : Nat) (x : List Nat) : Nat → List Nat
  | 0 => x
  | i + 1 => stK J (stI J n x i) i n
def stR (J : Nat → Nat → Bool) (n : Nat) : Nat → List Nat
  | 0 => List.replicate n 0
  | r + 1 => stI J n (stR J n r) n
/-! The program's way. -/
def upF (s : List Nat × Bool) (v l : Nat) : List Nat × Bool := if nb s.1 v < l then (s.1.set v l, true) else s
def rsA (J : Nat → Nat → Bool) (s : List Nat × Bool) (k i : Nat) : List Nat × Bool := if J i k then upF s i (nb s.1 k - 7) else upF s k (nb s.1 i + 8)
def rsB (s : List Nat × Bool) (k i : Nat) : List Nat × Bool := if i + 1 = k then upF s k (nb s.1 i) else s
def rsI (J : Nat → Nat → Bool) (s : List Nat × Bool) (k : Nat) : Nat → List Nat × Bool
  | 0 => s
  | i + 1 => rsB (rsA J (rsI J s k i) k i) k i
def rsK (J : Nat → Nat → Bool) (s : List Nat × Bool) : Nat → List Nat × Bool
  | 0 => s
  | k + 1 => rsI J (rsK J s k) k k
def rsR (J : Nat → Nat → Bool) (n : Nat) : Nat → List Nat
  | 0 => List.replicate n 0
  | r + 1 => (rsK J (rsR J n r, false) n).1
def rsF (J : Nat → Nat → Bool) (n r : Nat) : Bool := (rsK J (rsR J n r, false) n).2
/-! Stairs. -/
def stairs (n : Nat) : Nat → List (List Nat)
  | 0 => [[]]
  | i + 1 => (stairs n i).flatMap fun s => ((List.range n).filter fun v => decide (i ≤ v) && decide ((s.getLast?.getD 0) ≤ v)).map fun v => s ++ [v]
def adjS (s : List Nat) (i k : Nat) : Bool := decide (k ≤ nb s i)
def okS (n : Nat) (s : List Nat) : Bool := (rsF (adjS s) n 3 == false) && (stR (adjS s) n 5 == stR (adjS s) n 4) && (rsR (adjS s) n 3 == stR (adjS s) n 4)
theorem mem_chunk {α : Type} {l : List α} {a : α} {b m : Nat} (hb : 0 < b) (hl : l.length ≤ b * m) (h : a ∈ l) : ∃ j, j < m ∧ a ∈ (l.drop (b * j)).take b := by
  obtain ⟨i, hi, rfl⟩ := List.mem_iff_getElem.1 h
  have h1 := Nat.div_add_mod i b
  have h2 := Nat.mod_lt i hb
  refine ⟨i / b, (Nat.div_lt_iff_lt_mul hb).2 (by rw [Nat.mul_comm m b]; omega), ?_⟩
  rw [List.mem_iff_getElem]
  refine ⟨i % b, by rw [List.length_take, List.length_drop]; omega, ?_⟩
  rw [List.getElem_take, List.getElem_drop]
  simp only [h1]
set_option maxRecDepth 100000 in
theorem ok_small : ((List.range 7).all fun n => (stairs n n).all fun s => okS n s) = true := by decide +kernel
set_option maxRecDepth 100000 in
theorem len_seven : (stairs 7 7).length = 429 := by decide +kernel
def chunk7 (j : Nat) : List (List Nat) := ((stairs 7 7).drop (36 * j)).take 36
set_option maxRecDepth 100000 in
theorem ok7_0 : ((chunk7 0).all fun s => okS 7 s) = true := by decide +kernel
set_option maxRecDepth 100000 in
theorem ok7_1 : ((chunk7 1).all fun s => okS 7 s) = true := by decide +kernel
set_option maxRecDepth 100000 in
theorem ok7_2 : ((chunk7 2).all fun s => okS 7 s) = true := by decide +kernel
set_option maxRecDepth 100000 in
theorem ok7_3 : ((chunk7 3).all fun s => okS 7 s) = true := by decide +kernel
set_option maxRecDepth 100000 in
theorem ok7_4 : ((chunk7 4).all fun s => okS 7 s) = true := by decide +kernel
set_option maxRecDepth 100000 in
theorem ok7_5 : ((chunk7 5).all fun s => okS 7 s) = true := by decide +kernel
set_option maxRecDepth 100000 in
theorem ok7_6 : ((chunk7 6).all fun s => okS 7 s) = true := by decide +kernel
set_option maxRecDepth 100000 in
theorem ok7_7 : ((chunk7 7).all fun s => okS 7 s) = true := by decide +kernel
set_option maxRecDepth 100000 in
theorem ok7_8 : ((chunk7 8).all fun s => okS 7 s) = true := by decide +kernel
set_option maxRecDepth 100000 in
theorem ok7_9 : ((chunk7 9).all fun s => okS 7 s) = true := by decide +kernel
set_option maxRecDepth 100000 in
theorem ok7_10 : ((chunk7 10).all fun s => okS 7 s) = true := by decide +kernel
set_option maxRecDepth 100000 in
theorem ok7_11 : ((chunk7 11).all fun s => okS 7 s) = true := by decide +kernel
theorem ok_seven {s : List Nat} (h : s ∈ stairs 7 7) : okS 7 s = true := by
  obtain ⟨j, hj, hm⟩ := mem_chunk (b := 36) (m := 12) (by omega) (by rw [len_seven]; omega) h
  have hc : ((chunk7 j).all fun s => okS 7 s) = true := by
    match j, hj with
    | 0, _ => exact ok7_0
    | 1, _ => exact ok7_1
    | 2, _ => exact ok7_2
    | 3, _ => exact ok7_3
    | 4, _ => exact ok7_4
    | 5, _ => exact ok7_5
    | 6, _ => exact ok7_6
    | 7, _ => exact ok7_7
    | 8, _ => exact ok7_8
    | 9, _ => exact ok7_9
    | 10, _ => exact ok7_10
    | 11, _ => exact ok7_11
  exact List.all_eq_true.1 hc s hm
theorem all_ok {n : Nat} (hn : n ≤ 7) {s : List Nat} (h : s ∈ stairs n n) : okS n s = true := by
  rcases Nat.lt_or_ge n 7 with hlt | hge
  · exact List.all_eq_true.1 (List.all_eq_true.1 ok_small n (List.mem_range.2 hlt)) s h
  · obtain rfl : n = 7 := by omega
    exact ok_seven h
end Go.Proofs.Ytfodbgogeclifaa
