/- The laws' own helpers: sizes, copies, comparisons of lists of numbers. Each by its contract. -/
import Derived.Test.YtnaoomchekhcgaaDoorRows
import Derived.Test.YtnaoomchekhcgaaDoorBase
import Derived.Outline
import Derived.Handy
import Derived.Deep.QuietTactic
import Derived.BigQuiet
namespace Go.Proofs.YtnaoomchekhcgaaDoor
open Go.RowKit

theorem Tryd.info3 : (Tryd.prog.info? 3).map (fun i => (i.zero, i.size, i.bytes)) = some (some (.int .i64 0), 1, 8) := by kernel_rfl

/-- n zeros. -/
def zeros (n : Nat) : Array Value := Array.replicate n (.int .i64 0)
/-- make([]int, n). -/
theorem make_ints (n : Nat) (hn : n ≤ 1048576) (w : World) :
    (Instr.makeSlice 22 (.int .i64 (n : Int)) (.int .i64 (n : Int))).run Tryd.prog w = .ok (.slice (some ⟨w.heap.size, 0, none⟩) n n) (w.alloc (.cells (zeros n) 3)) := by
  obtain ⟨i0, hi, hz0, hz1, hz2⟩ := info_parts Tryd.info3
  have h := run_make (P := Tryd.prog) w 22 3 i0 (.int .i64 0) Tryd.underlying22 hi hz0 .i64 .i64 n n (by omega) (by omega) (by rw [hz2]; omega) (by omega)
  rw [h, hz1]
  have e : madeCells (Value.int .i64 0).cells (((n : Int).toNat) * 1) = zeros n := by
    simp only [madeCells, zeros, Value.cells, Int.toNat_natCast, Nat.mul_one]
    apply Array.ext
    · simp
    · intro i h1 h2; simp [Nat.mod_one]
  rw [e, Int.toNat_natCast]

/-- 'v = append(v, x)', v the call's own, one number. -/
theorem wpList_push {ops : Array Oper} {rest : List Oper} {o : Oper} {a : Act} {Q : Exit → Act → World → Prop} {w : World} (hgd : o.guard = none) (s x : Operand)
    (ho : o.op = .call { callee := .builtin .append, args := #[s, x], argTypes := #[22, 22] })
    {base n c : Nat} {A : Option Addr} {xs : List Int} (y : Int) (hs : a.eval s = .slice A n c) (hown : OwnI w base A n c xs)
    (ad : Addr) (hx : a.eval x = .slice (some ad) 1 1) (hc : w.cell? ad = some (.int .i64 y)) (hn : n ≤ 1099511627776) (hbase : base ≤ w.heap.size)
    (h : ∀ A' c' w', OwnI w' base A' (n + 1) c' (xs ++ [y]) → Below base w w' → w.grownBy w' (Value.slice A n c).ownBlock → wpList Tryd.prog ops Q rest (a.put o.dst (.slice A' (n + 1) c')) w') : wpList Tryd.prog ops Q (o :: rest) a w := by
  obtain ⟨i0, hi, hz0, hz1, hz2⟩ := info_parts Tryd.info3
  refine wpList_append_own w hgd s x 22 ho base 3 i0 (.int .i64 0) 1 8 Tryd.underlying22 hi hz0 hz1 hz2 rfl (by decide) _ n _ hs hown ad 1 1 [.int .i64 y] hx rfl ?_ ?_ (by unfold maxLen; omega) (by omega) hbase ?_
  · intro j u hj
    match j, hj with
    | 0, hj => simp at hj; subst hj; simpa [Addr.add] using hc
  · intro u hu; simp at hu; subst hu; rfl
  · intro v' w' hown' hg _
    have hex : ∃ A' c', v' = .slice A' (n + 1) c' := by
      rcases hown'.2 with ⟨_, h0⟩ | ⟨g, cap, cur, hv, _⟩
      · omega
      · exact ⟨_, _, hv⟩
    obtain ⟨A', c', rfl⟩ := hex
    have hb : Below base w w' := (Below.refl _ _).grown hg hbase fun k hk => (hown.block k hk).1
    exact h A' c' w' (by unfold OwnI; rw [List.map_append]; exact hown') hb hg
/-- A result that is a slice of numbers of the call's own. -/
def GivesI (xs : List Int) (w : World) (e : Ending) (w' : World) : Prop := ∃ A c, e = .returned (.slice A xs.length c) ∧ OwnI w' w.heap.size A xs.length c xs ∧ Below w.heap.size w w'
theorem szIntS_ok (A : Option Addr) (n c : Nat) (l : Int) (w : World) (h : (n : Int) ≤ l) (hl : l ≤ 1048576) :
    Calls Tryd.prog 15 #[.slice A n c, .int .i64 l] w fun e w' => e = .returned (.int .i64 (l - n)) ∧ w = w' := by
  go_enter Tryd.func15, Tryd.ntmps15
  go_wp2
  go_ret
  exact ⟨rfl, rfl⟩
theorem szIntS_big (A : Option Addr) (n c : Nat) (l : Int) (w : World) (h : l < n) (h0 : 0 ≤ l) (hn : n ≤ 9223372036854775807) :
    Calls Tryd.prog 15 #[.slice A n c, .int .i64 l] w fun e w' => e = .returned (.int .i64 (-1)) ∧ w = w' := by
  go_enter Tryd.func15, Tryd.ntmps15
  go_wp2
  go_ret
  exact ⟨rfl, rfl⟩

def NewS (xs : List Int) (n : Nat) (w : World) (e : Ending) (w' : World) : Prop :=
  ∃ g, e = .returned (.slice (some ⟨g, 0, none⟩) n n) ∧ w.heap.size ≤ g ∧ Blk w' g 3 (xs.map (Value.int .i64)).toArray ∧ Below w.heap.size w w'
/-- The first k cells copied. -/
def copied (xs : List Int) (n k : Nat) : Array Value := ((xs.take k).map (Value.int .i64) ++ List.replicate (n - k) (Value.int .i64 0)).toArray
theorem copied_zero (xs : List Int) (n : Nat) : copied xs n 0 = zeros n := by simp [copied, zeros]
theorem copied_all (xs : List Int) (n : Nat) (h : xs.length = n) : copied xs n n = (xs.map (Value.int .i64)).toArray := by simp [copied, ← h]
theorem copied_set (xs : List Int) (n k : Nat) (h : xs.length = n) (hk : k < n) : (copied xs n k).setIfInBounds k (.int .i64 (xs.getD k 0)) = copied xs n (k + 1) := by
  subst h
  simp only [copied, List.setIfInBounds_toArray]
  congr 1
  have e1 : (xs.take k).length = k := by simp; omega
  rw [List.set_append_right _ _ (by simp; omega), List.take_succ_eq_append_getElem hk, List.map_append, List.append_assoc]
  congr 1
  simp only [List.length_map, e1, Nat.sub_self, List.map_cons, List.map_nil]
  obtain ⟨m, hm⟩ : ∃ m, xs.length - k = m + 1 := ⟨xs.length - k - 1, by omega⟩
  have hm' : xs.length - (k + 1) = m := by omega
  rw [hm, hm', List.replicate_succ, List.set_cons_zero]
  simp [List.getD, List.getElem?_eq_getElem hk]
set_option maxHeartbeats 400000 in
theorem toIntS_any (A : Option Addr) (n c : Nat) (xs : List Int) (w : World) (hA : RI w A n xs) (hn : n ≤ 1048576) :
    Calls Tryd.prog 19 #[.slice A n c] w (NewS xs n w) := by
  have hmk := make_ints n hn
  have HL := Lib.hid hA.1
  go_enter Tryd.func19, Tryd.ntmps19
  go_wp2
  clear hmk
  go_loopw [4] (fun i wr => ∃ k : Nat, k ≤ n ∧ i = .int .i64 k ∧ Blk wr w.heap.size 3 (copied xs n k) ∧ Below w.heap.size w wr) (fun i _ => n - (intOf i).toNat)
  case atStart => exact ⟨0, Nat.zero_le _, rfl, by rw [copied_zero]; exact Blk.new _ _ _, (Below.refl _ _).alloc (Nat.le_refl _) _⟩
  case round =>
    obtain ⟨k, hk, rfl, hblk, hb⟩ := hrel
    by_cases hlt : k < n
    · obtain ⟨ad, rfl, had, hc⟩ := (hA.up hb).at_ hlt
      have hcs : wr.cell? ⟨w.heap.size, k, none⟩ = (copied xs n k)[k]? := hblk.cell k
      have hcs2 : (copied xs n k)[k]? = some (.int .i64 0) := by
        simp only [copied, List.getElem?_toArray]
        rw [List.getElem?_append_right (by simp; omega)]
        have e : (xs.take k).length = k := by have := HL.out; simp; omega
        simp only [List.length_map, e, Nat.sub_self, List.getElem?_replicate]
        rw [if_pos (by omega)]
      rw [hcs2] at hcs
      have hfz := hblk.frozen k
      clear hcs2
      go_wp2
      go_roundw
      case rel => exact ⟨k + 1, by omega, by go_num, by have := hblk.set_ k (.int .i64 (xs.getD k 0)); rw [copied_set xs n k HL.out hlt] at this; simpa using this, hb.setCell (Nat.le_refl _) _⟩
      case measure => simp [intOf]; omega
    · obtain rfl : k = n := by omega
      go_wp2
      go_ret
      rw [copied_all xs k HL.out] at hblk
      exact ⟨_, rfl, Nat.le_refl _, hblk, hb⟩

theorem list_ne_len {xs ys : List Int} {n m : Nat} (hx : xs.length = n) (hy : ys.length = m) (h : n ≠ m) : decide (xs = ys) = false := by
  simp only [decide_eq_false_iff_not]
  rintro rfl
  omega
theorem list_ne_at {xs ys : List Int} {k : Nat} (h : xs.getD k 0 ≠ ys.getD k 0) : decide (xs = ys) = false := by
  simp only [decide_eq_false_iff_not]
  rintro rfl
  exact h rfl
theorem list_eq_of {xs ys : List Int} {n : Nat} (hx : xs.length = n) (hy : ys.length = n) (h : ∀ j, j < n → xs.getD j 0 = ys.getD j 0) : decide (xs = ys) = true := by
  simp only [decide_eq_true_eq]
  apply List.ext_getElem (by omega)
  intro j h1 h2
  have := h j (by omega)
  simpa [List.getD, List.getElem?_eq_getElem h1, List.getElem?_eq_getElem h2] using this
set_option maxHeartbeats 400000 in
theorem eqIntS_any (A B : Option Addr) (n m ca cb : Nat) (xs ys : List Int) (w : World) (hA : RI w A n xs) (hB : RI w B m ys) (hn : n ≤ 9223372036854775807) :
    Calls Tryd.prog 23 #[.slice A n ca, .slice B m cb] w fun e w' => e = .returned (.bool (decide (xs = ys))) ∧ Below w.heap.size w w' := by
  have HX := Lib.hid hA.1
  have HY := Lib.hid hB.1
  by_cases hnm : n = m
  · subst hnm
    go_enter Tryd.func23, Tryd.ntmps23
    go_wp2
    go_loopw [5] (fun i wr => ∃ k : Nat, k ≤ n ∧ i = .int .i64 k ∧ Below w.heap.size w wr ∧ Hid (∀ j, j < k → xs.getD j 0 = ys.getD j 0)) (fun i _ => n - (intOf i).toNat)
    case atStart => exact ⟨0, Nat.zero_le _, rfl, Below.refl _ _, fun j h => absurd h (by omega)⟩
    case round =>
      obtain ⟨k, hk, rfl, hb, hall⟩ := hrel
      by_cases hlt : k < n
      · obtain ⟨a, rfl, ha, hca⟩ := (hA.up hb).at_ hlt
        obtain ⟨b, rfl, hb', hcb⟩ := (hB.up hb).at_ hlt
        go_wp2_with fail
        go_quiet (fail)
        go_wp2
        · go_ret
          have h : (xs[k]?.getD 0 != ys[k]?.getD 0) = true := by assumption
          exact ⟨ret_bool (list_ne_at (k := k) (by simpa using h)).symm, below_drewN hb _⟩
        · have h : (xs[k]?.getD 0 != ys[k]?.getD 0) = false := by assumption
          go_roundw
          case rel => exact ⟨k + 1, by omega, by go_num, below_drewN hb _, fun j hj => by
            rcases Nat.lt_succ_iff_lt_or_eq.1 hj with h' | rfl
            · exact hall.out j h'
            · simpa using h⟩
          case measure => simp [intOf]; omega
      · obtain rfl : k = n := by omega
        go_wp2
        go_ret
        exact ⟨ret_bool (list_eq_of HX.out HY.out hall.out).symm, hb⟩
  · have e : ((n : Int) != m) = true := by simp; omega
    go_enter Tryd.func23, Tryd.ntmps23
    go_wp2
    go_ret
    exact ⟨ret_bool (list_ne_len HX.out HY.out hnm).symm, Below.refl _ _⟩

theorem szIntervals_ok (A B : Option Addr) (n m ca cb : Nat) (l : Int) (w : World) (h : (n : Int) + m ≤ l) (hl : l ≤ 1048576) :
    Calls Tryd.prog 10 #[.agg #[.slice A n ca, .slice B m cb], .int .i64 l] w fun e w' => e = .returned (.int .i64 (l - n - m)) ∧ Below w.heap.size w w' := by
  go_enter Tryd.func10, Tryd.ntmps10
  go_wp2_with fail
  refine (szIntS_ok _ _ _ _ _ (by omega) hl).mono ?_
  rintro e w1 ⟨rfl, rfl⟩
  go_wp2_with fail
  refine (szIntS_ok _ _ _ _ _ (by omega) (by omega)).mono ?_
  rintro e w1 ⟨rfl, rfl⟩
  go_wp2
  go_ret
  exact ⟨rfl, by go_grown⟩
theorem szIntervals_big (A B : Option Addr) (n m ca cb : Nat) (l : Int) (w : World) (h : l < (n : Int) + m) (h0 : 0 ≤ l) (hl : l ≤ 1048576) (hn : n ≤ 9223372036854775807) (hm : m ≤ 9223372036854775807) :
    Calls Tryd.prog 10 #[.agg #[.slice A n ca, .slice B m cb], .int .i64 l] w fun e w' => e = .returned (.int .i64 (-1)) ∧ Below w.heap.size w w' := by
  by_cases hnl : (n : Int) ≤ l
  · go_enter Tryd.func10, Tryd.ntmps10
    go_wp2_with fail
    refine (szIntS_ok _ _ _ _ _ (by omega) hl).mono ?_
    rintro e w1 ⟨rfl, rfl⟩
    go_wp2_with fail
    refine (szIntS_big _ _ _ _ _ (by omega) (by omega) hm).mono ?_
    rintro e w1 ⟨rfl, rfl⟩
    go_wp2
    go_ret
    exact ⟨rfl, by go_grown⟩
  · go_enter Tryd.func10, Tryd.ntmps10
    go_wp2_with fail
    refine (szIntS_big _ _ _ _ _ (by omega) (by omega) hn).mono ?_
    rintro e w1 ⟨rfl, rfl⟩
    go_wp2
    go_ret
    exact ⟨rfl, by go_grown⟩
def NewII (L R : List Int) (n m : Nat) (w : World) (e : Ending) (w' : World) : Prop :=
  ∃ g1 g2, e = .returned (.agg #[.slice (some ⟨g1, 0, none⟩) n n, .slice (some ⟨g2, 0, none⟩) m m]) ∧ w.heap.size ≤ g1 ∧ g1 < g2 ∧
    Blk w' g1 3 (L.map (Value.int .i64)).toArray ∧ Blk w' g2 3 (R.map (Value.int .i64)).toArray ∧ Below w.heap.size w w'
theorem toIntervals_any (A B : Option Addr) (n m ca cb : Nat) (L R : List Int) (w : World) (hA : RI w A n L) (hB : RI w B m R) (hn : n ≤ 1048576) (hm : m ≤ 1048576) :
    Calls Tryd.prog 12 #[.agg #[.slice A n ca, .slice B m cb]] w (NewII L R n m w) := by
  go_enter Tryd.func12, Tryd.ntmps12
  go_wp2_with fail
  refine (toIntS_any _ _ _ _ _ (hA.up (by go_grown)) hn).mono ?_
  rintro e w1 ⟨g1, rfl, hg1, hk1, hb1⟩
  have hw1 : Below w.heap.size w w1 := Up.then_ (by go_grown) hb1
  obtain ⟨hc1, hf1⟩ := bcell hb1
  have hz1 := hb1.size
  try simp only [World.size_alloc] at hz1
  try simp only [World.size_setCell] at hz1
  try simp only [World.size_alloc] at hz1
  try simp only [World.size_drew] at hz1
  have hl1_0 : w.heap.size < w1.heap.size := by omega
  have hl1_1 : w.heap.size + 1 < w1.heap.size := by omega
  have hl1_2 : w.heap.size + 1 + 1 < w1.heap.size := by omega
  go_wp2_with fail
  refine (toIntS_any _ _ _ _ _ (hB.up (by go_grown)) hm).mono ?_
  rintro e w2 ⟨g2, rfl, hg2, hk2, hb2⟩
  have hw2 : Below w.heap.size w w2 := Up.then_ (by go_grown) hb2
  obtain ⟨hc2, hf2⟩ := bcell hb2
  have hz2 := hb2.size
  try simp only [World.size_alloc] at hz2
  try simp only [World.size_setCell] at hz2
  try simp only [World.size_alloc] at hz2
  try simp only [World.size_drew] at hz2
  have hl2_0 : w.heap.size < w2.heap.size := by omega
  have hl2_1 : w.heap.size + 1 < w2.heap.size := by omega
  have hl2_2 : w.heap.size + 1 + 1 < w2.heap.size := by omega
  try simp only [World.size_alloc] at hg1
  try simp only [World.size_setCell] at hg1
  try simp only [World.size_alloc] at hg1
  try simp only [World.size_drew] at hg1
  try simp only [World.size_alloc] at hg2
  try simp only [World.size_setCell] at hg2
  try simp only [World.size_alloc] at hg2
  try simp only [World.size_drew] at hg2
  have hl := hk1.lt
  go_wp2
  refine bodyPost_ret (v := .agg #[.slice (some ⟨g1, 0, none⟩) n n, .slice (some ⟨g2, 0, none⟩) m m]) ?_ rfl ?_
  · simp [results, Tryd.results12, go_sem, hc2, hc1, hl1_1]
  refine ⟨g1, g2, rfl, by omega, by omega, ?_, ?_, by go_grown⟩
  · exact ((((hk1.far (by simp; omega) _).up hb2).far (by simp; omega) _).far (by simp; omega) _).far (by simp; omega) _
  · exact ((hk2.far (by simp; omega) _).far (by simp; omega) _).far (by simp; omega) _

theorem eqIntervals_any (A B C D : Option Addr) (n m n' m' ca cb cc cd : Nat) (L R L' R' : List Int) (w : World) (hA : RI w A n L) (hB : RI w B m R) (hC : RI w C n' L') (hD : RI w D m' R')
    (hn : n ≤ 9223372036854775807) (hm : m ≤ 9223372036854775807) :
    Calls Tryd.prog 14 #[.agg #[.slice A n ca, .slice B m cb], .agg #[.slice C n' cc, .slice D m' cd]] w fun e w' => e = .returned (.bool (decide (L = L') && decide (R = R'))) ∧ Below w.heap.size w w' := by
  by_cases h1 : L = L'
  · go_enter Tryd.func14, Tryd.ntmps14
    have e1 : decide (L = L') = true := by simp [h1]
    have E1 := Lib.hid e1
    clear h1
    go_wp2_with fail
    refine (eqIntS_any _ _ _ _ _ _ _ _ _ (hA.up (by go_grown)) (hC.up (by go_grown)) hn).mono ?_
    rintro e w1 ⟨rfl, hb1⟩
    have hw1 : Below w.heap.size w w1 := Up.then_ (by go_grown) hb1
    obtain ⟨hc1, hf1⟩ := bcell hb1
    have hz1 := hb1.size
    try simp only [World.size_alloc] at hz1
    try simp only [World.size_setCell] at hz1
    try simp only [World.size_alloc] at hz1
    try simp only [World.size_drew] at hz1
    have hl1_0 : w.heap.size < w1.heap.size := by omega
    have hl1_1 : w.heap.size + 1 < w1.heap.size := by omega
    go_wp2_with fail
    refine (eqIntS_any _ _ _ _ _ _ _ _ _ (hB.up (by go_grown)) (hD.up (by go_grown)) hm).mono ?_
    rintro e w2 ⟨rfl, hb2⟩
    have hw2 : Below w.heap.size w w2 := Up.then_ (by go_grown) hb2
    obtain ⟨hc2, hf2⟩ := bcell hb2
    have hz2 := hb2.size
    try simp only [World.size_alloc] at hz2
    try simp only [World.size_setCell] at hz2
    try simp only [World.size_alloc] at hz2
    try simp only [World.size_drew] at hz2
    have hl2_0 : w.heap.size < w2.heap.size := by omega
    have hl2_1 : w.heap.size + 1 < w2.heap.size := by omega
    clear e1
    go_wp2
    · go_ret
      have h : (!decide (R = R')) = true := by assumption
      refine ⟨ret_bool ?_, by go_grown⟩
      rw [E1.out]
      simpa using h
    · go_ret
      have h : (!decide (R = R')) = false := by assumption
      refine ⟨ret_bool ?_, by go_grown⟩
      rw [E1.out]
      simpa using h
  · have e1 : decide (L = L') = false := by simp [h1]
    go_enter Tryd.func14, Tryd.ntmps14
    clear h1
    go_wp2_with fail
    refine (eqIntS_any _ _ _ _ _ _ _ _ _ (hA.up (by go_grown)) (hC.up (by go_grown)) hn).mono ?_
    rintro e w1 ⟨rfl, hb1⟩
    have hw1 : Below w.heap.size w w1 := Up.then_ (by go_grown) hb1
    obtain ⟨hc1, hf1⟩ := bcell hb1
    have hz1 := hb1.size
    try simp only [World.size_alloc] at hz1
    try simp only [World.size_setCell] at hz1
    try simp only [World.size_alloc] at hz1
    try simp only [World.size_drew] at hz1
    have hl1_0 : w.heap.size < w1.heap.size := by omega
    have hl1_1 : w.heap.size + 1 < w1.heap.size := by omega
    go_wp2
    go_ret
    refine ⟨ret_bool ?_, by go_grown⟩
    simp [e1]
theorem szTree_ok (A B : Option Addr) (n m ca cb : Nat) (l : Int) (w : World) (h : (n : Int) + m ≤ l) (hl : l ≤ 1048576) :
    Calls Tryd.prog 5 #[.agg #[.slice A n ca, .slice B m cb], .int .i64 l] w fun e w' => e = .returned (.int .i64 (l - n - m)) ∧ Below w.heap.size w w' := by
  go_enter Tryd.func5, Tryd.ntmps5
  go_wp2_with fail
  refine (szIntS_ok _ _ _ _ _ (by omega) hl).mono ?_
  rintro e w1 ⟨rfl, rfl⟩
  go_wp2_with fail
  refine (szIntS_ok _ _ _ _ _ (by omega) (by omega)).mono ?_
  rintro e w1 ⟨rfl, rfl⟩
  go_wp2
  go_ret
  exact ⟨rfl, by go_grown⟩
theorem szTree_big (A B : Option Addr) (n m ca cb : Nat) (l : Int) (w : World) (h : l < (n : Int) + m) (h0 : 0 ≤ l) (hl : l ≤ 1048576) (hn : n ≤ 9223372036854775807) (hm : m ≤ 9223372036854775807) :
    Calls Tryd.prog 5 #[.agg #[.slice A n ca, .slice B m cb], .int .i64 l] w fun e w' => e = .returned (.int .i64 (-1)) ∧ Below w.heap.size w w' := by
  by_cases hnl : (n : Int) ≤ l
  · go_enter Tryd.func5, Tryd.ntmps5
    go_wp2_with fail
    refine (szIntS_ok _ _ _ _ _ (by omega) hl).mono ?_
    rintro e w1 ⟨rfl, rfl⟩
    go_wp2_with fail
    refine (szIntS_big _ _ _ _ _ (by omega) (by omega) hm).mono ?_
    rintro e w1 ⟨rfl, rfl⟩
    go_wp2
    go_ret
    exact ⟨rfl, by go_grown⟩
  · go_enter Tryd.func5, Tryd.ntmps5
    go_wp2_with fail
    refine (szIntS_big _ _ _ _ _ (by omega) (by omega) hn).mono ?_
    rintro e w1 ⟨rfl, rfl⟩
    go_wp2
    go_ret
    exact ⟨rfl, by go_grown⟩
theorem toTree_any (A B : Option Addr) (n m ca cb : Nat) (L R : List Int) (w : World) (hA : RI w A n L) (hB : RI w B m R) (hn : n ≤ 1048576) (hm : m ≤ 1048576) :
    Calls Tryd.prog 7 #[.agg #[.slice A n ca, .slice B m cb]] w (NewII L R n m w) := by
  go_enter Tryd.func7, Tryd.ntmps7
  go_wp2_with fail
  refine (toIntS_any _ _ _ _ _ (hA.up (by go_grown)) hn).mono ?_
  rintro e w1 ⟨g1, rfl, hg1, hk1, hb1⟩
  have hw1 : Below w.heap.size w w1 := Up.then_ (by go_grown) hb1
  obtain ⟨hc1, hf1⟩ := bcell hb1
  have hz1 := hb1.size
  try simp only [World.size_alloc] at hz1
  try simp only [World.size_setCell] at hz1
  try simp only [World.size_alloc] at hz1
  try simp only [World.size_drew] at hz1
  have hl1_0 : w.heap.size < w1.heap.size := by omega
  have hl1_1 : w.heap.size + 1 < w1.heap.size := by omega
  have hl1_2 : w.heap.size + 1 + 1 < w1.heap.size := by omega
  go_wp2_with fail
  refine (toIntS_any _ _ _ _ _ (hB.up (by go_grown)) hm).mono ?_
  rintro e w2 ⟨g2, rfl, hg2, hk2, hb2⟩
  have hw2 : Below w.heap.size w w2 := Up.then_ (by go_grown) hb2
  obtain ⟨hc2, hf2⟩ := bcell hb2
  have hz2 := hb2.size
  try simp only [World.size_alloc] at hz2
  try simp only [World.size_setCell] at hz2
  try simp only [World.size_alloc] at hz2
  try simp only [World.size_drew] at hz2
  have hl2_0 : w.heap.size < w2.heap.size := by omega
  have hl2_1 : w.heap.size + 1 < w2.heap.size := by omega
  have hl2_2 : w.heap.size + 1 + 1 < w2.heap.size := by omega
  try simp only [World.size_alloc] at hg1
  try simp only [World.size_setCell] at hg1
  try simp only [World.size_alloc] at hg1
  try simp only [World.size_drew] at hg1
  try simp only [World.size_alloc] at hg2
  try simp only [World.size_setCell] at hg2
  try simp only [World.size_alloc] at hg2
  try simp only [World.size_drew] at hg2
  have hl := hk1.lt
  go_wp2
  refine bodyPost_ret (v := .agg #[.slice (some ⟨g1, 0, none⟩) n n, .slice (some ⟨g2, 0, none⟩) m m]) ?_ rfl ?_
  · simp [results, Tryd.results7, go_sem, hc2, hc1, hl1_1]
  refine ⟨g1, g2, rfl, by omega, by omega, ?_, ?_, by go_grown⟩
  · exact ((((hk1.far (by simp; omega) _).up hb2).far (by simp; omega) _).far (by simp; omega) _).far (by simp; omega) _
  · exact ((hk2.far (by simp; omega) _).far (by simp; omega) _).far (by simp; omega) _

theorem eqTree_any (A B C D : Option Addr) (n m n' m' ca cb cc cd : Nat) (L R L' R' : List Int) (w : World) (hA : RI w A n L) (hB : RI w B m R) (hC : RI w C n' L') (hD : RI w D m' R')
    (hn : n ≤ 9223372036854775807) (hm : m ≤ 9223372036854775807) :
    Calls Tryd.prog 9 #[.agg #[.slice A n ca, .slice B m cb], .agg #[.slice C n' cc, .slice D m' cd]] w fun e w' => e = .returned (.bool (decide (L = L') && decide (R = R'))) ∧ Below w.heap.size w w' := by
  by_cases h1 : L = L'
  · go_enter Tryd.func9, Tryd.ntmps9
    have e1 : decide (L = L') = true := by simp [h1]
    have E1 := Lib.hid e1
    clear h1
    go_wp2_with fail
    refine (eqIntS_any _ _ _ _ _ _ _ _ _ (hA.up (by go_grown)) (hC.up (by go_grown)) hn).mono ?_
    rintro e w1 ⟨rfl, hb1⟩
    have hw1 : Below w.heap.size w w1 := Up.then_ (by go_grown) hb1
    obtain ⟨hc1, hf1⟩ := bcell hb1
    have hz1 := hb1.size
    try simp only [World.size_alloc] at hz1
    try simp only [World.size_setCell] at hz1
    try simp only [World.size_alloc] at hz1
    try simp only [World.size_drew] at hz1
    have hl1_0 : w.heap.size < w1.heap.size := by omega
    have hl1_1 : w.heap.size + 1 < w1.heap.size := by omega
    go_wp2_with fail
    refine (eqIntS_any _ _ _ _ _ _ _ _ _ (hB.up (by go_grown)) (hD.up (by go_grown)) hm).mono ?_
    rintro e w2 ⟨rfl, hb2⟩
    have hw2 : Below w.heap.size w w2 := Up.then_ (by go_grown) hb2
    obtain ⟨hc2, hf2⟩ := bcell hb2
    have hz2 := hb2.size
    try simp only [World.size_alloc] at hz2
    try simp only [World.size_setCell] at hz2
    try simp only [World.size_alloc] at hz2
    try simp only [World.size_drew] at hz2
    have hl2_0 : w.heap.size < w2.heap.size := by omega
    have hl2_1 : w.heap.size + 1 < w2.heap.size := by omega
    clear e1
    go_wp2
    · go_ret
      have h : (!decide (R = R')) = true := by assumption
      refine ⟨ret_bool ?_, by go_grown⟩
      rw [E1.out]
      simpa using h
    · go_ret
      have h : (!decide (R = R')) = false := by assumption
      refine ⟨ret_bool ?_, by go_grown⟩
      rw [E1.out]
      simpa using h
  · have e1 : decide (L = L') = false := by simp [h1]
    go_enter Tryd.func9, Tryd.ntmps9
    clear h1
    go_wp2_with fail
    refine (eqIntS_any _ _ _ _ _ _ _ _ _ (hA.up (by go_grown)) (hC.up (by go_grown)) hn).mono ?_
    rintro e w1 ⟨rfl, hb1⟩
    have hw1 : Below w.heap.size w w1 := Up.then_ (by go_grown) hb1
    obtain ⟨hc1, hf1⟩ := bcell hb1
    have hz1 := hb1.size
    try simp only [World.size_alloc] at hz1
    try simp only [World.size_setCell] at hz1
    try simp only [World.size_alloc] at hz1
    try simp only [World.size_drew] at hz1
    have hl1_0 : w.heap.size < w1.heap.size := by omega
    have hl1_1 : w.heap.size + 1 < w1.heap.size := by omega
    go_wp2
    go_ret
    refine ⟨ret_bool ?_, by go_grown⟩
    simp [e1]
end Go.Proofs.YtnaoomchekhcgaaDoor
