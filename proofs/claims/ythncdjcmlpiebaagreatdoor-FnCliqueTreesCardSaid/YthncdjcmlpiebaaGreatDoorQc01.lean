/- Words on memory that every walk of this seat uses: a slice that reads as a list of numbers, a block that is known whole, what a call leaves as it was. No program in sight. The laws' own helpers: sizes, copies, comparisons of lists of numbers. Each by its contract. The copies, the sizes and the comparisons of a graph and of an orientation. The marks that a law lays into a result, and their reading. The marks that a law lays into structs, and their reading. Results of several parts, of the call's own making. A region that draws its order, walked once in the text's order: where every operation, in every world that meets S, leaves one and the same value and a world that meets S (reads, arithmetic, calls that only make memory). No program in sight. From a law's contract to its row: arguments opened, the end closed. -/
import Derived.Test.YthncdjcmlpiebaaGreatDoorRows
import Derived.Below
import Derived.BigQuiet
import Derived.Carry
import Derived.ChangeSame
import Derived.Deep.AppendLies
import Derived.Deep.Draws
import Derived.Deep.QuietTactic
import Derived.Deep.RegionHeld3
import Derived.Deep.Slices
import Derived.Handy
import Derived.IntWalk
import Derived.Laws.BitsAllLaws
import Derived.Laws.BitsLemmas
import Derived.Laws.OwnMore
import Derived.Laws.Rows
import Derived.Lib.Hide
import Derived.Lib.SmallJoins
import Derived.OrdersHeld
import Derived.Outline
import Derived.ProofKit
import Derived.SizedLaws
import Derived.WalkKit
import Derived.WalkLawsBesides
import Derived.WalkSpells
namespace Go.Proofs.YthncdjcmlpiebaaGreatDoor
open Go.RowKit

set_option maxRecDepth 100000 in
theorem block_of_add (a : Addr) (n : Nat) : (a.add n).block = a.block := by unfold Addr.add; split <;> rfl
set_option maxRecDepth 100000 in
theorem add_of_add (a : Addr) (i j : Nat) : (a.add i).add j = a.add (i + j) := by
  unfold Addr.add
  by_cases hi : i = 0 <;> by_cases hj : j = 0 <;> simp [hi, hj, Nat.add_assoc]
set_option maxRecDepth 100000 in
theorem ret_bool {a b : Bool} (h : a = b) : Ending.returned (.bool a) = Ending.returned (.bool b) := by rw [h]
set_option maxRecDepth 100000 in
theorem ret_int {k : IntKind} {a b : Int} (h : a = b) : Ending.returned (.int k a) = Ending.returned (.int k b) := by rw [h]
set_option maxRecDepth 100000 in
theorem ofInt_i64 (a : Nat) (ha : a < 9223372036854775808) : (BitVec.ofInt 64 (a : Int)).toNat = a := by
  rw [BitVec.ofInt_natCast, BitVec.toNat_ofNat]; exact Nat.mod_eq_of_lt (by omega)
set_option maxRecDepth 100000 in
theorem i64_and_nat (a b : Nat) (ha : a < 9223372036854775808) (hb : b < 9223372036854775808) : bits .and .i64 (a : Int) (b : Int) = ((a &&& b : Nat) : Int) := by
  have hx : a &&& b < 2 ^ 63 := Nat.and_lt_two_pow _ (by omega)
  show IntKind.i64.wrap ((BitVec.ofInt 64 (a : Int) &&& BitVec.ofInt 64 (b : Int)).toNat : Int) = _
  rw [BitVec.toNat_and, ofInt_i64 a ha, ofInt_i64 b hb, IntKind.wrap_i64]
  omega
set_option maxRecDepth 100000 in
theorem i64_or_nat (a b : Nat) (ha : a < 9223372036854775808) (hb : b < 9223372036854775808) : bits .or .i64 (a : Int) (b : Int) = ((a ||| b : Nat) : Int) := by
  have hx : a ||| b < 2 ^ 63 := Nat.or_lt_two_pow (by omega) (by omega)
  show IntKind.i64.wrap ((BitVec.ofInt 64 (a : Int) ||| BitVec.ofInt 64 (b : Int)).toNat : Int) = _
  rw [BitVec.toNat_or, ofInt_i64 a ha, ofInt_i64 b hb, IntKind.wrap_i64]
  omega
set_option maxRecDepth 100000 in
theorem pow_wrap (k : Nat) (hk : k ≤ 62) : wrap64 ((2 : Int) ^ k) = ((2 ^ k : Nat) : Int) := by
  have h : (2 : Nat) ^ k ≤ 2 ^ 62 := Nat.pow_le_pow_right (by omega) hk
  have e : ((2 : Int) ^ k) = ((2 ^ k : Nat) : Int) := by simp
  rw [e]
  generalize (2 : Nat) ^ k = t at h
  exact IntWalk.wrap64_in _ ⟨by omega, by omega⟩
/-- 2 to the k, closed to simp. -/
def p2 (k : Nat) : Nat := 2 ^ k
set_option maxRecDepth 100000 in
theorem p2_le {k : Nat} (hk : k ≤ 7) : p2 k ≤ 128 := Nat.pow_le_pow_right (n := 2) (by omega) hk
set_option maxRecDepth 100000 in
theorem p2_pos (k : Nat) : 1 ≤ p2 k := Nat.two_pow_pos _
set_option maxRecDepth 100000 in
theorem shl_p2 {k : Nat} (hk : k ≤ 62) : wrap64 ((2 : Int) ^ k) = ((p2 k : Nat) : Int) := pow_wrap k hk
set_option maxRecDepth 100000 in
theorem and_one (s v : Nat) (hs : s < 9223372036854775808) : bits .and .i64 ((s : Int) / 2 ^ v) 1 = if s.testBit v then 1 else 0 := by
  have e : ((s : Int) / 2 ^ v) = ((s / 2 ^ v : Nat) : Int) := by simp
  have h1 : s / 2 ^ v < 9223372036854775808 := Nat.lt_of_le_of_lt (Nat.div_le_self _ _) hs
  have h := i64_and_nat (s / 2 ^ v) 1 h1 (by omega)
  rw [e]
  have e1 : ((1 : Nat) : Int) = 1 := rfl
  rw [← e1, h, Nat.and_one_is_mod, Nat.testBit_eq_decide_div_mod_eq]
  by_cases hh : s / 2 ^ v % 2 = 1
  · simp [hh]
  · have : s / 2 ^ v % 2 = 0 := by omega
    simp [this]
set_option maxRecDepth 100000 in
theorem bit_one (s v : Nat) (hs : s < 9223372036854775808) : (bits .and .i64 ((s : Int) / 2 ^ v) 1 == 1) = s.testBit v := by
  rw [and_one s v hs]; cases s.testBit v <;> rfl
set_option maxRecDepth 100000 in
theorem bit_zero (s v : Nat) (hs : s < 9223372036854775808) : (bits .and .i64 ((s : Int) / 2 ^ v) 1 == 0) = !s.testBit v := by
  rw [and_one s v hs]; cases s.testBit v <;> rfl
set_option maxRecDepth 100000 in
theorem i64_andNot_nat (a b : Nat) (ha : a < 9223372036854775808) (hb : b < 9223372036854775808) : bits .andNot .i64 (a : Int) (b : Int) = ((a ^^^ (a &&& b) : Nat) : Int) := by
  have hx : a ^^^ (a &&& b) < 2 ^ 63 := Nat.xor_lt_two_pow (by omega) (Nat.and_lt_two_pow _ (by omega))
  show IntKind.i64.wrap ((BitVec.ofInt 64 (a : Int) &&& ~~~BitVec.ofInt 64 (b : Int)).toNat : Int) = _
  have e : (BitVec.ofInt 64 (a : Int) &&& ~~~BitVec.ofInt 64 (b : Int)) = (BitVec.ofInt 64 (a : Int) ^^^ (BitVec.ofInt 64 (a : Int) &&& BitVec.ofInt 64 (b : Int))) := by
    apply BitVec.eq_of_getLsbD_eq
    intro i hi
    simp only [BitVec.getLsbD_and, BitVec.getLsbD_not, BitVec.getLsbD_xor, hi, decide_true, Bool.true_and]
    cases (BitVec.ofInt 64 (a : Int)).getLsbD i <;> cases (BitVec.ofInt 64 (b : Int)).getLsbD i <;> rfl
  rw [e, BitVec.toNat_xor, BitVec.toNat_and, ofInt_i64 a ha, ofInt_i64 b hb, IntKind.wrap_i64]
  omega
set_option maxRecDepth 100000 in
theorem pow_le7 {k : Nat} (hk : k ≤ 7) : 2 ^ k ≤ 128 := Nat.pow_le_pow_right (n := 2) (by omega) hk
/-- Nothing that was there has changed. -/
abbrev Up (w w' : World) : Prop := Below w.heap.size w w'
set_option maxRecDepth 100000 in
theorem Up.refl (w : World) : Up w w := Below.refl _ _
set_option maxRecDepth 100000 in
theorem Up.then_ {w w1 w2 : World} (h : Up w w1) (k : Up w1 w2) : Up w w2 := h.trans (k.mono h.size)
set_option maxRecDepth 100000 in
theorem below_drewN {B : Nat} {a w : World} (h : Below B a w) (n : Nat) : Below B a (w.drewN n) := ⟨h.os, h.tape, h.output, h.size, h.block⟩
set_option maxRecDepth 100000 in
theorem bcell {W w1 : World} (hb : Below W.heap.size W w1) : (∀ b o, b < W.heap.size → w1.cell? ⟨b, o, none⟩ = W.cell? ⟨b, o, none⟩) ∧ (∀ b o, b < W.heap.size → w1.frozen? ⟨b, o, none⟩ = W.frozen? ⟨b, o, none⟩) :=
  ⟨fun b o h => hb.cell (p := ⟨b, o, none⟩) h, fun b o h => hb.frozen (p := ⟨b, o, none⟩) h⟩
set_option maxRecDepth 100000 in
theorem upk {w w' : World} (h : Up w w') : Up w w' ∧ ∀ b o, b < w.heap.size → w'.cell? ⟨b, o, none⟩ = w.cell? ⟨b, o, none⟩ := ⟨h, fun b o hb => h.cell (p := ⟨b, o, none⟩) hb⟩
/-- The slice '.slice A n c' reads as the numbers xs. -/
def RI (w : World) (A : Option Addr) (n : Nat) (xs : List Int) : Prop :=
  xs.length = n ∧ (0 < n → ∃ ad, A = some ad ∧ ∀ j, j < n → w.cell? (ad.add j) = some (.int .i64 (xs.getD j 0)))
section
variable {w w' : World} {n : Nat} {A : Option Addr} {xs : List Int}
set_option maxRecDepth 100000 in
theorem RI.nil_ {A : Option Addr} : RI w A 0 [] := ⟨rfl, fun h => absurd h (by omega)⟩
set_option maxRecDepth 100000 in
theorem RI.at_ {k : Nat} (h : RI w A n xs) (hk : k < n) : ∃ ad, A = some ad ∧ ad.block < w.heap.size ∧ w.cell? (ad.add k) = some (.int .i64 (xs.getD k 0)) := by
  obtain ⟨ad, e, hc⟩ := h.2 (by omega)
  have := World.block_lt_of_cell? w _ (hc k hk)
  rw [block_of_add] at this
  exact ⟨ad, e, this, hc k hk⟩
set_option maxRecDepth 100000 in
theorem RI.addr (h : RI w A n xs) (hn : 0 < n) : ∃ ad, A = some ad ∧ ad.block < w.heap.size ∧ ∀ j, j < n → w.cell? (ad.add j) = some (.int .i64 (xs.getD j 0)) := by
  obtain ⟨ad, e, hc⟩ := h.2 hn
  obtain ⟨ad', e', hb, _⟩ := h.at_ hn
  rw [e] at e'
  injection e' with e'
  subst e'
  exact ⟨ad, e, hb, hc⟩
set_option maxRecDepth 100000 in
theorem RI.keep (h : RI w A n xs) (hk : ∀ p : Addr, p.block < w.heap.size → w'.cell? p = w.cell? p) : RI w' A n xs :=
  ⟨h.1, fun hn => by
    obtain ⟨ad, e, hb, hc⟩ := h.addr hn
    exact ⟨ad, e, fun j hj => (hk _ (by rw [block_of_add]; exact hb)).trans (hc j hj)⟩⟩
set_option maxRecDepth 100000 in
theorem RI.up (h : RI w A n xs) (hb : Below w.heap.size w w') : RI w' A n xs := h.keep fun _ hp => hb.cell hp
set_option maxRecDepth 100000 in
/-- Element k, in every world above. -/
theorem RI.after {k : Nat} (h : RI w A n xs) (hk : k < n) : ∃ ad, A = some ad ∧ ∀ o, (w.alloc o).cell? (ad.add k) = some (.int .i64 (xs.getD k 0)) := by
  obtain ⟨ad, e, hb, hc⟩ := h.at_ hk
  exact ⟨ad, e, fun o => (World.cell?_alloc_lt w o _ (by rw [block_of_add]; exact hb)).trans hc⟩
set_option maxRecDepth 100000 in
theorem RI.drew (h : RI w A n xs) : RI w.drew A n xs := h
set_option maxRecDepth 100000 in
theorem RI.drewN (h : RI w A n xs) (k : Nat) : RI (w.drewN k) A n xs := h
set_option maxRecDepth 100000 in
theorem RI.alloc (h : RI w A n xs) (o : Obj) : RI (w.alloc o) A n xs := h.keep fun p hp => World.cell?_alloc_lt w o p hp
set_option maxRecDepth 100000 in
theorem RI.grown (h : RI w A n xs) {row : Option Nat} (hg : w.grownBy w' row) (hr : ∀ ad, A = some ad → some ad.block ≠ row) : RI w' A n xs :=
  ⟨h.1, fun hn => by
    obtain ⟨ad, e, hb, hc⟩ := h.addr hn
    exact ⟨ad, e, fun j hj => (World.cell?_of_block (hg.block (ad.add j).block (by rw [block_of_add]; exact hb) (by rw [block_of_add]; exact hr ad e))).trans (hc j hj)⟩⟩
set_option maxRecDepth 100000 in
theorem RI.of_own {base : Nat} {e : TypeId} {c : Nat} (h : w.ownsRow base e 1 (.slice A n c) n (xs.map (Value.int .i64))) : RI w A n xs := by
  have hl : xs.length = n := by simpa using h.1
  refine ⟨hl, fun hn => ?_⟩
  obtain ⟨g, cap, hv, _, hlt⟩ := h.form hn
  have hA : A = some ⟨g, 0, none⟩ := by injection hv
  subst hA
  exact ⟨_, rfl, fun j hj => h.cells (g := g) rfl j _ (by rw [List.getElem?_map, List.getElem?_eq_getElem (by omega)]; simp [List.getD, List.getElem?_eq_getElem (show j < xs.length by omega)])⟩
end

/-- Block g is just the cells cs of element type t, none frozen. -/
def Blk (w : World) (g : Nat) (t : TypeId) (cs : Array Value) : Prop := w.heap[g]? = some (.cells cs t (0, 0))
section
variable {w w' : World} {g : Nat} {t : TypeId} {cs : Array Value}
set_option maxRecDepth 100000 in
theorem Blk.lt (h : Blk w g t cs) : g < w.heap.size := by
  rcases Nat.lt_or_ge g w.heap.size with hlt | hge
  · exact hlt
  · unfold Blk at h; rw [Array.getElem?_eq_none hge] at h; cases h
set_option maxRecDepth 100000 in
theorem Blk.cell (h : Blk w g t cs) (i : Nat) : w.cell? ⟨g, i, none⟩ = cs[i]? := cell_of_row w g i cs t (0, 0) h
set_option maxRecDepth 100000 in
theorem Blk.frozen (h : Blk w g t cs) (i : Nat) : w.frozen? ⟨g, i, none⟩ = false := by
  unfold Blk at h
  simp [World.frozen?, h]
set_option maxRecDepth 100000 in
theorem Blk.new (w : World) (t : TypeId) (cs : Array Value) : Blk (w.alloc (.cells cs t)) w.heap.size t cs := heap_alloc_new w _
set_option maxRecDepth 100000 in
theorem Blk.new_at {w : World} {t : TypeId} {cs : Array Value} {g : Nat} (h : w.heap.size = g) : Blk (w.alloc (.cells cs t)) g t cs := by subst h; exact Blk.new _ _ _
set_option maxRecDepth 100000 in
/-- A struct of two fields in a block of its own. -/
theorem Blk.two {x y : Value} (h : Blk w g t #[x, y]) : w.cell? ⟨g, 0, none⟩ = some x ∧ w.cell? ⟨g, 1, none⟩ = some y := ⟨h.cell 0, h.cell 1⟩
set_option maxRecDepth 100000 in
theorem Blk.one {x : Value} (h : Blk w g t #[x]) : w.cell? ⟨g, 0, none⟩ = some x := h.cell 0
set_option maxRecDepth 100000 in
theorem Blk.drew (h : Blk w g t cs) : Blk w.drew g t cs := h
set_option maxRecDepth 100000 in
theorem Blk.drewN (h : Blk w g t cs) (n : Nat) : Blk (w.drewN n) g t cs := h
set_option maxRecDepth 100000 in
theorem Blk.alloc (h : Blk w g t cs) (o : Obj) : Blk (w.alloc o) g t cs := (Below.heap_alloc w o g h.lt).trans h
set_option maxRecDepth 100000 in
theorem Blk.set_ (h : Blk w g t cs) (i : Nat) (u : Value) : Blk (w.setCell ⟨g, i, none⟩ u) g t (cs.setIfInBounds i u) := by
  unfold Blk at h ⊢
  simp [World.setCell, Array.getElem?_modify, h]
set_option maxRecDepth 100000 in
theorem Blk.far (h : Blk w g t cs) {p : Addr} (hp : g ≠ p.block) (u : Value) : Blk (w.setCell p u) g t cs := (Below.heap_setCell w p u g hp).trans h
set_option maxRecDepth 100000 in
theorem Blk.below {B : Nat} (h : Blk w g t cs) (hb : Below B w w') (hg : g < B) : Blk w' g t cs := (hb.block g hg).trans h
set_option maxRecDepth 100000 in
theorem Blk.up (h : Blk w g t cs) (hb : Below w.heap.size w w') : Blk w' g t cs := h.below hb h.lt
set_option maxRecDepth 100000 in
theorem Blk.grown {row : Option Nat} (h : Blk w g t cs) (hb : w.grownBy w' row) (hg : some g ≠ row) : Blk w' g t cs := (hb.block g h.lt hg).trans h
set_option maxRecDepth 100000 in
theorem Blk.ri {n : Nat} {xs : List Int} (h : Blk w g t (xs.map (Value.int .i64)).toArray) (hl : xs.length = n) : RI w (some ⟨g, 0, none⟩) n xs := by
  refine ⟨hl, fun _ => ⟨_, rfl, fun j hj => ?_⟩⟩
  have hadd : (⟨g, 0, none⟩ : Addr).add j = ⟨g, j, none⟩ := by unfold Addr.add; split <;> simp_all
  rw [hadd, h.cell]
  have hj' : j < xs.length := by omega
  simp [List.getElem?_eq_getElem hj']
set_option maxRecDepth 100000 in
theorem Blk.own {base n : Nat} (h : Blk w g t cs) (hb : base ≤ g) (hn : cs.size = n) (hm : n ≤ maxLen) : w.ownsRow base t 1 (.slice (some ⟨g, 0, none⟩) n n) n cs.toList :=
  ⟨by simpa using hn, .inr ⟨g, n, cs, rfl, hb, h, Nat.le_refl _, hm, by simpa using hn, List.take_of_length_le (by simp [hn])⟩⟩
end

set_option maxRecDepth 100000 in
theorem Blk.ne_ {w : World} {g g' : Nat} {t t' : TypeId} {cs cs' : Array Value} (h : Blk w g t cs) (h' : Blk w g' t' cs') (hne : t ≠ t') : g ≠ g' := by
  rintro rfl
  unfold Blk at h h'
  rw [h] at h'
  injection h' with h'
  injection h' with _ ht
  exact hne ht
set_option maxRecDepth 100000 in
theorem own_blk_ne {w : World} {g : Nat} {t : TypeId} {cs : Array Value} {base : Nat} {e : TypeId} {size n : Nat} {v : Value} {xs : List Value} (h : w.ownsRow base e size v n xs) (hg : Blk w g t cs) (hne : e ≠ t) : v.ownBlock ≠ some g := by
  rcases h.2 with ⟨rfl, _⟩ | ⟨g', cap, cur, rfl, _, hh, _⟩
  · simp [Value.ownBlock]
  · intro he
    have : g' = g := by simpa [Value.ownBlock] using he
    subst this
    exact Blk.ne_ (t := e) hh hg hne rfl
/-- The slice '.slice A n c' of numbers is the call's own (blocks from 'base' on), and reads as xs. -/
def OwnI (w : World) (base : Nat) (A : Option Addr) (n c : Nat) (xs : List Int) : Prop := w.ownsRow base 3 1 (.slice A n c) n (xs.map (Value.int .i64))
section
variable {w w' : World} {base n c : Nat} {A : Option Addr} {xs : List Int}
set_option maxRecDepth 100000 in
theorem OwnI.ri (h : OwnI w base A n c xs) : RI w A n xs := RI.of_own h
set_option maxRecDepth 100000 in
theorem OwnI.len (h : OwnI w base A n c xs) : xs.length = n := h.ri.1
set_option maxRecDepth 100000 in
theorem OwnI.kept {row : Option Nat} (h : OwnI w base A n c xs) (hg : w.grownBy w' row) (hne : (Value.slice A n c).ownBlock = none ∨ (Value.slice A n c).ownBlock ≠ row) : OwnI w' base A n c xs := World.ownsRow.kept h hg hne
set_option maxRecDepth 100000 in
theorem only_of_below {a w : World} (h : Below a.heap.size a w) (row : Option Nat) : a.grownBy w row := ⟨h.os, h.tape, h.output, h.size, fun i hi _ => h.block i hi⟩
set_option maxRecDepth 100000 in
theorem OwnI.up (h : OwnI w base A n c xs) (hb : Below w.heap.size w w') : OwnI w' base A n c xs := by
  rcases hv : (Value.slice A n c).ownBlock with _ | g
  · exact h.kept (only_of_below hb none) (.inl hv)
  · exact h.kept (only_of_below hb none) (.inr (by rw [hv]; simp))
set_option maxRecDepth 100000 in
theorem OwnI.alloc (h : OwnI w base A n c xs) (o : Obj) : OwnI (w.alloc o) base A n c xs := World.ownsRow.alloc h o
set_option maxRecDepth 100000 in
theorem OwnI.drewN (h : OwnI w base A n c xs) (k : Nat) : OwnI (w.drewN k) base A n c xs := h
set_option maxRecDepth 100000 in
theorem OwnI.drew (h : OwnI w base A n c xs) : OwnI w.drew base A n c xs := h
set_option maxRecDepth 100000 in
theorem OwnI.more {base' : Nat} (h : OwnI w base A n c xs) (hb : base' ≤ base) : OwnI w base' A n c xs := by
  refine ⟨h.1, ?_⟩
  rcases h.2 with hn | ⟨g, cap, cur, hv, hg, rest⟩
  · exact .inl hn
  · exact .inr ⟨g, cap, cur, hv, by omega, rest⟩
set_option maxRecDepth 100000 in
theorem OwnI.block (h : OwnI w base A n c xs) : ∀ k, (Value.slice A n c).ownBlock = some k → base ≤ k ∧ k < w.heap.size := World.ownsRow.lt h
set_option maxRecDepth 100000 in
theorem OwnI.nil_ (w : World) (base : Nat) : OwnI w base none 0 0 [] := World.ownsRow_nil _ _ _ _
set_option maxRecDepth 100000 in
theorem OwnI.made (w : World) (h : base ≤ w.heap.size) : OwnI (w.alloc (.cells #[] 3)) base (some ⟨w.heap.size, 0, none⟩) 0 0 [] := World.ownsRow_made w #[] 0 h (by decide) (by simp)
set_option maxRecDepth 100000 in
/-- A block that is known whole, of another element type, is kept by a push. -/
theorem OwnI.keeps {g : Nat} {t : TypeId} {cs : Array Value} (h : OwnI w base A n c xs) (hg : w.grownBy w' (Value.slice A n c).ownBlock) (hk : Blk w g t cs) (hne : t ≠ 3) : Blk w' g t cs :=
  hk.grown hg (Ne.symm (own_blk_ne (e := 3) h hk (Ne.symm hne)))
end
end Go.Proofs.YthncdjcmlpiebaaGreatDoor
namespace Go.Proofs.YthncdjcmlpiebaaGreatDoor
open Go.RowKit

set_option maxRecDepth 100000 in
theorem Tryz.info3 : (Tryz.prog.info? 3).map (fun i => (i.zero, i.size, i.bytes)) = some (some (.int .i64 0), 1, 8) := by kernel_rfl
/-- n zeros. -/
def zeros (n : Nat) : Array Value := Array.replicate n (.int .i64 0)
set_option maxRecDepth 100000 in
/-- make([]int, n). -/
theorem make_ints (n : Nat) (hn : n ≤ 1048576) (w : World) :
    (Instr.makeSlice 24 (.int .i64 (n : Int)) (.int .i64 (n : Int))).run Tryz.prog w = .ok (.slice (some ⟨w.heap.size, 0, none⟩) n n) (w.alloc (.cells (zeros n) 3)) := by
  obtain ⟨i0, hi, hz0, hz1, hz2⟩ := info_parts Tryz.info3
  have h := run_make (P := Tryz.prog) w 24 3 i0 (.int .i64 0) Tryz.underlying24 hi hz0 .i64 .i64 n n (by omega) (by omega) (by rw [hz2]; omega) (by omega)
  rw [h, hz1]
  have e : madeCells (Value.int .i64 0).cells (((n : Int).toNat) * 1) = zeros n := by
    simp only [madeCells, zeros, Value.cells, Int.toNat_natCast, Nat.mul_one]
    apply Array.ext
    · simp
    · intro i h1 h2; simp [Nat.mod_one]
  rw [e, Int.toNat_natCast]
set_option maxRecDepth 100000 in
/-- 'v = append(v, x)', v the call's own, one number. -/
theorem wpList_push {ops : Array Oper} {rest : List Oper} {o : Oper} {a : Act} {Q : Exit → Act → World → Prop} {w : World} (hgd : o.guard = none) (s x : Operand)
    (ho : o.op = .call { callee := .builtin .append, args := #[s, x], argTypes := #[24, 24] })
    {base n c : Nat} {A : Option Addr} {xs : List Int} (y : Int) (hs : a.eval s = .slice A n c) (hown : OwnI w base A n c xs)
    (ad : Addr) (hx : a.eval x = .slice (some ad) 1 1) (hc : w.cell? ad = some (.int .i64 y)) (hn : n ≤ 1099511627776) (hbase : base ≤ w.heap.size)
    (h : ∀ A' c' w', OwnI w' base A' (n + 1) c' (xs ++ [y]) → Below base w w' → w.grownBy w' (Value.slice A n c).ownBlock → wpList Tryz.prog ops Q rest (a.put o.dst (.slice A' (n + 1) c')) w') : wpList Tryz.prog ops Q (o :: rest) a w := by
  obtain ⟨i0, hi, hz0, hz1, hz2⟩ := info_parts Tryz.info3
  refine wpList_append_own w hgd s x 24 ho base 3 i0 (.int .i64 0) 1 8 Tryz.underlying24 hi hz0 hz1 hz2 rfl (by decide) _ n _ hs hown ad 1 1 [.int .i64 y] hx rfl ?_ ?_ (by unfold maxLen; omega) (by omega) hbase ?_
  · intro j u hj
    match j, hj with
    | 0, hj => simp at hj; subst hj; simpa [Addr.add] using hc
  · intro u hu; simp at hu; subst hu; rfl
  · intro v' w' hown' hg _
    have hex : ∃ A' c', v' = .slice A' (n + 1) c' := by
      rcases hown'.2 with ⟨_, h0⟩ | ⟨g, cap, cur, hv, _⟩
      · omega
      · exact ⟨_, _, hv⟩
    obtain ⟨A', c', rfl⟩ := hex
    have hb : Below base w w' := (Below.refl _ _).grown hg hbase fun k hk => (hown.block k hk).1
    exact h A' c' w' (by unfold OwnI; rw [List.map_append]; exact hown') hb hg
/-- A result that is a slice of numbers of the call's own. -/
def GivesI (xs : List Int) (w : World) (e : Ending) (w' : World) : Prop := ∃ A c, e = .returned (.slice A xs.length c) ∧ OwnI w' w.heap.size A xs.length c xs ∧ Below w.heap.size w w'
set_option maxRecDepth 100000 in
theorem list_ne_len {xs ys : List Int} {n m : Nat} (hx : xs.length = n) (hy : ys.length = m) (h : n ≠ m) : decide (xs = ys) = false := by
  simp only [decide_eq_false_iff_not]
  rintro rfl
  omega
set_option maxRecDepth 100000 in
theorem list_ne_at {xs ys : List Int} {k : Nat} (h : xs.getD k 0 ≠ ys.getD k 0) : decide (xs = ys) = false := by
  simp only [decide_eq_false_iff_not]
  rintro rfl
  exact h rfl
set_option maxRecDepth 100000 in
theorem list_eq_of {xs ys : List Int} {n : Nat} (hx : xs.length = n) (hy : ys.length = n) (h : ∀ j, j < n → xs.getD j 0 = ys.getD j 0) : decide (xs = ys) = true := by
  simp only [decide_eq_true_eq]
  apply List.ext_getElem (by omega)
  intro j h1 h2
  have := h j (by omega)
  simpa [List.getD, List.getElem?_eq_getElem h1, List.getElem?_eq_getElem h2] using this
end Go.Proofs.YthncdjcmlpiebaaGreatDoor
namespace Go.Proofs.YthncdjcmlpiebaaGreatDoor
open Go.RowKit
set_option maxRecDepth 100000
end Go.Proofs.YthncdjcmlpiebaaGreatDoor
namespace Go.Proofs.YthncdjcmlpiebaaGreatDoor
open Go.RowKit
set_option maxRecDepth 100000
def mixed (xs : List Int) (k j : Nat) : List Int := (List.range j).map (fun i => ((k + i : Nat) : Int)) ++ xs.drop j
set_option maxRecDepth 100000 in
theorem OwnI.form {w : World} {base n c : Nat} {A : Option Addr} {xs : List Int} (h : OwnI w base A n c xs) (hn : 0 < n) : ∃ g, A = some ⟨g, 0, none⟩ := by
  obtain ⟨g, cap, hv, _, _⟩ := World.ownsRow.form h hn
  simp only [Value.slice.injEq] at hv
  exact ⟨g, hv.1⟩
set_option maxRecDepth 100000 in
theorem OwnI.put {w : World} {base n c g : Nat} {xs : List Int} (h : OwnI w base (some ⟨g, 0, none⟩) n c xs) (j : Nat) (z : Int) :
    OwnI (w.setCell ⟨g, j, none⟩ (.int .i64 z)) base (some ⟨g, 0, none⟩) n c (xs.set j z) ∧ w.grownBy (w.setCell ⟨g, j, none⟩ (.int .i64 z)) (some g) := by
  have := World.ownsRow.stored h j (.int .i64 z)
  refine ⟨?_, this.2⟩
  unfold OwnI
  rw [List.map_set]
  exact this.1
set_option maxRecDepth 100000 in
theorem OwnI.of_blk {w : World} {g n : Nat} {L : List Int} (h : Blk w g 3 (L.map (Value.int .i64)).toArray) (hl : L.length = n) (hn : n ≤ 1048576) : OwnI w g (some ⟨g, 0, none⟩) n n L :=
  h.own (Nat.le_refl _) (by simp [hl]) (by unfold maxLen; omega)
end Go.Proofs.YthncdjcmlpiebaaGreatDoor
namespace Go.Proofs.YthncdjcmlpiebaaGreatDoor
open Go.RowKit
set_option maxRecDepth 100000
end Go.Proofs.YthncdjcmlpiebaaGreatDoor
namespace Go.Proofs.YthncdjcmlpiebaaGreatDoor
open Go.RowKit
/-- A slice of numbers and a flag. -/
def GivesIB (xs : List Int) (b : Bool) (w : World) (e : Ending) (w' : World) : Prop :=
  ∃ A c, e = .returned (.tuple #[.slice A xs.length c, .bool b]) ∧ OwnI w' w.heap.size A xs.length c xs ∧ Below w.heap.size w w'
/-- A graph and a flag. -/
def GivesGB (N : Int) (xs : List Int) (b : Bool) (w : World) (e : Ending) (w' : World) : Prop :=
  ∃ A c, e = .returned (.tuple #[.agg #[.int .i64 N, .slice A xs.length c], .bool b]) ∧ OwnI w' w.heap.size A xs.length c xs ∧ Below w.heap.size w w'
/-- A struct of two slices of numbers, and a flag. -/
def GivesTB (xs ys : List Int) (b : Bool) (w : World) (e : Ending) (w' : World) : Prop :=
  ∃ A c B d, e = .returned (.tuple #[.agg #[.slice A xs.length c, .slice B ys.length d], .bool b]) ∧ OwnI w' w.heap.size A xs.length c xs ∧ OwnI w' w.heap.size B ys.length d ys ∧
    (∀ j, (Value.slice A xs.length c).ownBlock = some j → (Value.slice B ys.length d).ownBlock ≠ some j) ∧ Below w.heap.size w w'
end Go.Proofs.YthncdjcmlpiebaaGreatDoor
namespace Go.Proofs.YthncdjcmlpiebaaGreatDoor

section
variable {P : Program} {ops : Array Oper} {Q : Exit → Act → World → Prop} {S : World → Prop}
/-- In state a, in every world that meets S, o leaves v and a world that meets S. -/
def Calm (P : Program) (ops : Array Oper) (S : World → Prop) (o : Oper) (v : Value) (a : Act) : Prop :=
  (Region.wanted o (yielded ops a.tmps) = true ∧ ∀ w, S w → ∃ n, (execOp a.eval o).run P w = .ok n w ∧ (n = .value v ∨ ∃ f args, n = .enter f args ∧ Calls P f args w fun e w' => e = .returned v ∧ S w')) ∨
  (Region.wanted o (yielded ops a.tmps) = false ∧ v = undef)
set_option maxRecDepth 100000 in
theorem Calm.val {o : Oper} {v : Value} {a : Act} (hw : Region.wanted o (yielded ops a.tmps) = true) (h : ∀ w, S w → (execOp a.eval o).run P w = .ok (.value v) w) : Calm P ops S o v a :=
  .inl ⟨hw, fun w hS => ⟨_, h w hS, .inl rfl⟩⟩
set_option maxRecDepth 100000 in
theorem Calm.call {o : Oper} {v : Value} {a : Act} {f : FuncId} {args : Array Value} (hw : Region.wanted o (yielded ops a.tmps) = true) (he : ∀ w, (execOp a.eval o).run P w = .ok (.enter f args) w) (h : ∀ w, S w → Calls P f args w fun e w' => e = .returned v ∧ S w') : Calm P ops S o v a :=
  .inl ⟨hw, fun w hS => ⟨_, he w, .inr ⟨f, args, rfl, h w hS⟩⟩⟩
set_option maxRecDepth 100000 in
theorem Calm.off {o : Oper} {a : Act} (hw : Region.wanted o (yielded ops a.tmps) = false) : Calm P ops S o undef a := .inr ⟨hw, rfl⟩
set_option maxRecDepth 100000 in
theorem Calm.wpOp {i : Nat} {o : Oper} {v : Value} {a : Act} (hi : ops[i]? = some o) (hy : Calm P ops S o v a) {K : Act → World → Prop} {w : World} (hS : S w) (h : ∀ w', S w' → K (a.put o.dst v) w') : wpOp P ops Q i K a w := by
  unfold Go.wpOp
  simp only [hi]
  rcases hy with ⟨hw, hv⟩ | ⟨hw, rfl⟩
  · simp only [hw, if_true]
    refine .inl ?_
    obtain ⟨n, hr, hn⟩ := hv w hS
    unfold Oper.wp
    rw [hr]
    rcases hn with rfl | ⟨f, args, rfl, hc⟩
    · exact h w hS
    · rw [Oper.upon_enter]
      refine hc.mono fun e w' he => ?_
      obtain ⟨rfl, hS'⟩ := he
      exact h w' hS'
  · simp only [hw, Bool.false_eq_true, if_false]
    exact h w hS
set_option maxRecDepth 100000 in
theorem Calm.of_same {o : Oper} {v : Value} {a a' : Act} (hy : Calm P ops S o v a) (he : execOp a'.eval o = execOp a.eval o) (hw : Region.wanted o (yielded ops a'.tmps) = Region.wanted o (yielded ops a.tmps)) : Calm P ops S o v a' := by
  unfold Calm at *
  rw [he, hw]
  exact hy
set_option maxRecDepth 100000 in
theorem Calm.put {o : Oper} {v u : Value} {a : Act} {dst : Option Tmp} (hs : ∀ cs b, o.op ≠ .select cs b) (hy : Calm P ops S o v a) (h : ∀ d, dst = some d → d ∉ o.looksAt ops) : Calm P ops S o v (a.put dst u) :=
  hy.of_same (execOp_put o hs a dst u h) (wanted_put o a dst u h)
/-- The operations from number i on, in the text's order. -/
def CalmSeq (P : Program) (ops : Array Oper) (S : World → Prop) : List Oper → Act → (Act → Prop) → Prop
  | [], a, K => K a
  | o :: rest, a, K => ∃ v, Calm P ops S o v a ∧ CalmSeq P ops S rest (a.put o.dst v) K
set_option maxRecDepth 100000 in
theorem CalmSeq.cons {o : Oper} {rest : List Oper} {a : Act} {K : Act → Prop} (v : Value) (h : Calm P ops S o v a) (k : CalmSeq P ops S rest (a.put o.dst v) K) : CalmSeq P ops S (o :: rest) a K := ⟨v, h, k⟩
/-- The values of the operations that are listed, laid into their temporaries. -/
def putL (listed : Nat → Bool) : List (Oper × Value) → Nat → Act → Act
  | [], _, a => a
  | (o, v) :: rest, k, a => putL listed rest (k + 1) (if listed k then a.put o.dst v else a)
set_option maxRecDepth 100000 in
theorem put_size (a : Act) (d : Option Tmp) (v : Value) : (a.put d v).tmps.size = a.tmps.size := by cases d <;> simp [Act.put]
set_option maxRecDepth 100000 in
theorem put_at_other {a : Act} {d : Option Tmp} {v : Value} {t : Tmp} (h : d ≠ some t) : (a.put d v).tmps[t]? = a.tmps[t]? := by
  cases d with
  | none => rfl
  | some e => simp only [Act.put]; exact Array.getElem?_setIfInBounds_ne (fun k => h (by rw [k]))
set_option maxRecDepth 100000 in
theorem put_at_own {a : Act} {v : Value} {t : Tmp} : (a.put (some t) v).tmps[t]? = if t < a.tmps.size then some v else none := by
  simp [Act.put, Array.getElem?_setIfInBounds_self]
set_option maxRecDepth 100000 in
theorem putL_none {listed : Nat → Bool} : ∀ (ps : List (Oper × Value)) (k : Nat) (a : Act), (∀ j, k ≤ j → listed j = false) → putL listed ps k a = a
  | [], _, _, _ => rfl
  | (o, v) :: ps, k, a, h => by
    rw [putL, h k (Nat.le_refl _)]
    exact putL_none ps (k + 1) a fun j hj => h j (by omega)
set_option maxRecDepth 100000 in
theorem putL_agree {l l' : Nat → Bool} {t : Tmp} : ∀ (ps : List (Oper × Value)) (k : Nat) (a a' : Act), a.tmps.size = a'.tmps.size → a.tmps[t]? = a'.tmps[t]? →
    (∀ i o v, ps[i]? = some (o, v) → o.dst = some t → l (k + i) = l' (k + i)) → (putL l ps k a).tmps[t]? = (putL l' ps k a').tmps[t]?
  | [], _, _, _, _, he, _ => he
  | (o, v) :: ps, k, a, a', hs, he, h => by
    rw [putL, putL]
    refine putL_agree ps (k + 1) _ _ ?_ ?_ fun i o' v' hi hd => by
      have := h (i + 1) o' v' hi hd
      rwa [show k + (i + 1) = k + 1 + i by omega] at this
    · split <;> split <;> simp [put_size, hs]
    · by_cases hd : o.dst = some t
      · have h0 := h 0 o v rfl hd
        rw [Nat.add_zero] at h0
        rw [h0, hd]
        split
        · rw [put_at_own, put_at_own, hs]
        · exact he
      · have e1 : (if l k = true then a.put o.dst v else a).tmps[t]? = a.tmps[t]? := by split <;> simp [put_at_other hd]
        have e2 : (if l' k = true then a'.put o.dst v else a').tmps[t]? = a'.tmps[t]? := by split <;> simp [put_at_other hd]
        rw [e1, e2, he]
set_option maxRecDepth 100000 in
/-- One more is listed. -/
theorem putL_add {l l' : Nat → Bool} : ∀ (ps : List (Oper × Value)) (k i : Nat) (a : Act) (o : Oper) (v : Value), ps[i]? = some (o, v) → l (k + i) = false → l' (k + i) = true → (∀ j, j ≠ k + i → l' j = l j) →
    (∀ j o' v', ps[j]? = some (o', v') → j ≠ i → ∀ d, o'.dst = some d → o.dst ≠ some d) → putL l' ps k a = (putL l ps k a).put o.dst v
  | [], _, _, _, _, _, hi, _, _, _, _ => by cases hi
  | (o0, v0) :: ps, k, 0, a, o, v, hi, h0, h1, he, hd => by
    simp only [List.getElem?_cons_zero, Option.some.injEq, Prod.mk.injEq] at hi
    obtain ⟨rfl, rfl⟩ := hi
    rw [Nat.add_zero] at h0 h1 he
    rw [putL, putL, h0, h1]
    simp only [if_true, Bool.false_eq_true, if_false]
    exact putL_out ps (k + 1) a o0 v0 (fun j hj => he j (by omega)) fun j o' v' hj d hd' => hd (j + 1) o' v' hj (by omega) d hd'
  | (o0, v0) :: ps, k, i + 1, a, o, v, hi, h0, h1, he, hd => by
    rw [putL, putL, he k (by omega)]
    exact putL_add ps (k + 1) i _ o v hi (by rwa [show k + 1 + i = k + (i + 1) by omega]) (by rwa [show k + 1 + i = k + (i + 1) by omega]) (fun j hj => he j (by omega)) fun j o' v' hj hji d hd' => hd (j + 1) o' v' hj (by omega) d hd'
where
  putL_out {l l' : Nat → Bool} : ∀ (ps : List (Oper × Value)) (k : Nat) (a : Act) (o : Oper) (v : Value), (∀ j, k ≤ j → l' j = l j) → (∀ (j : Nat) o' v', ps[j]? = some (o', v') → ∀ d, o'.dst = some d → o.dst ≠ some d) →
      putL l' ps k (a.put o.dst v) = (putL l ps k a).put o.dst v
    | [], _, _, _, _, _, _ => rfl
    | (o1, v1) :: ps, k, a, o, v, he, hd => by
      rw [putL, putL, he k (Nat.le_refl _)]
      have e : (if l k = true then (a.put o.dst v).put o1.dst v1 else a.put o.dst v) = (if l k = true then a.put o1.dst v1 else a).put o.dst v := by
        split
        · exact Act.put_comm a v v1 fun d h1 h2 => hd 0 o1 v1 rfl d h2 h1
        · rfl
      rw [e]
      exact putL_out ps (k + 1) _ o v (fun j hj => he j (by omega)) fun j o' v' hj => hd (j + 1) o' v' hj
set_option maxRecDepth 100000 in
theorem CalmSeq.vals {K : Act → Prop} : ∀ (os : List Oper) (k : Nat) (a : Act), CalmSeq P ops S os a K → ∃ ps : List (Oper × Value), ps.map Prod.fst = os ∧ K (putL (fun _ => true) ps k a) ∧
    ∀ (i : Nat) o v, ps[i]? = some (o, v) → Calm P ops S o v (putL (fun j => decide (j < k + i)) ps k a)
  | [], _, a, h => ⟨[], rfl, h, fun i o v hi => by cases hi⟩
  | o :: os, k, a, ⟨v, hc, hr⟩ => by
    obtain ⟨ps, h1, h2, h3⟩ := CalmSeq.vals os (k + 1) (a.put o.dst v) hr
    refine ⟨(o, v) :: ps, by simp [h1], by rw [putL]; exact h2, fun i o' v' hi => ?_⟩
    cases i with
    | zero =>
      simp only [List.getElem?_cons_zero, Option.some.injEq, Prod.mk.injEq] at hi
      obtain ⟨rfl, rfl⟩ := hi
      rw [putL_none _ _ _ fun j hj => by simp; omega]
      exact hc
    | succ i =>
      have := h3 i o' v' hi
      rw [putL]
      have e1 : decide (k < k + (i + 1)) = true := by simp
      rw [e1]
      have e2 : (fun j => decide (j < k + (i + 1))) = fun j => decide (j < k + 1 + i) := by funext j; congr 1; rw [eq_iff_iff]; omega
      rw [e2]
      exact this
set_option maxRecDepth 100000 in
theorem Calm.agree {o : Oper} {v : Value} {a a' : Act} (hs : ∀ cs b, o.op ≠ .select cs b) (hy : Calm P ops S o v a) (h : ∀ t ∈ o.looksAt ops, a.tmps[t]? = a'.tmps[t]?) : Calm P ops S o v a' := by
  refine hy.of_same (execOp_congr o hs fun x hx => ?_) ?_
  · cases x with
    | tmp t =>
      have := h t (List.mem_append_left _ (List.mem_filterMap.2 ⟨.tmp t, by simpa using hx, rfl⟩))
      simp only [Act.eval, Array.getD_eq_getD_getElem?, this]
    | const _ => rfl
    | global _ => rfl
    | func _ => rfl
  · unfold Region.wanted
    cases hg : o.guard with
    | none => rfl
    | some gw =>
      obtain ⟨g, want⟩ := gw
      have hy : yielded ops a'.tmps g = yielded ops a.tmps g := by
        unfold yielded
        cases ht : (ops[g]?).bind (·.dst) with
        | none => rfl
        | some t =>
          have := h t (by simp [Oper.looksAt, hg, ht])
          simp only [Option.bind_some, this]
      simp only [hy]
/-- No operation writes what another one writes, or what it looks at itself; what it looks at is written by one that it waits for, and stands earlier in the text; it waits for earlier ones alone. -/
def calmOk (md : Region.Mode) (ops : Array Oper) : Bool :=
  Region.noSelect ops && (List.range ops.size).all fun i => match ops[i]? with
    | none => true
    | some oi => (oi.after.all fun e => decide (e.on < i)) && (List.range ops.size).all fun j => match ops[j]? with
      | none => true
      | some oj => match oj.dst with
        | none => true
        | some d => (j == i || oi.dst != some d) && (!(oi.looksAt ops).contains d || (decide (j < i) && oi.after.any fun e => Region.binds md e && e.on == j))
set_option maxRecDepth 100000 in
theorem calmOk_spec {md : Region.Mode} (h : calmOk md ops = true) : (∀ (j : Nat) (o : Oper) cs b, ops[j]? = some o → o.op ≠ .select cs b) ∧ ∀ i oi, ops[i]? = some oi → (∀ e ∈ oi.after, e.on < i) ∧ ∀ j oj d, ops[j]? = some oj → oj.dst = some d → (j ≠ i → oi.dst ≠ some d) ∧ (d ∈ oi.looksAt ops → j < i ∧ ∃ e ∈ oi.after, Region.binds md e = true ∧ e.on = j) := by
  rw [calmOk, Bool.and_eq_true, List.all_eq_true] at h
  refine ⟨Region.noSelect_spec h.1, fun i oi hi => ?_⟩
  have h1 := h.2 i (List.mem_range.2 (Array.getElem?_eq_some_iff.1 hi).1)
  simp only [hi, Bool.and_eq_true, List.all_eq_true] at h1
  refine ⟨fun e he => ?_, fun j oj d hj hd => ?_⟩
  · have := Array.all_eq_true_iff_forall_mem.1 h1.1 e he
    simpa using this
  · have h2 := h1.2 j (List.mem_range.2 (Array.getElem?_eq_some_iff.1 hj).1)
    simp only [hj, hd, Bool.and_eq_true, Bool.or_eq_true, beq_iff_eq, bne_iff_ne, Bool.not_eq_true', decide_eq_true_eq] at h2
    refine ⟨fun hne => h2.1.resolve_left hne, fun hm => ?_⟩
    rcases h2.2 with h3 | h3
    · rw [List.contains_iff_mem.2 hm] at h3; cases h3
    · refine ⟨h3.1, ?_⟩
      obtain ⟨k, hk, h4⟩ := Array.any_eq_true.1 h3.2
      simp only [Bool.and_eq_true, beq_iff_eq] at h4
      exact ⟨_, Array.getElem_mem hk, h4.1, h4.2⟩
/-- How many are not listed yet. -/
def left (n : Nat) (listed : Array Bool) : Nat := ((List.range n).filter fun j => !listed.getD j true).length
set_option maxRecDepth 100000 in
theorem left_zero {n : Nat} {listed : Array Bool} (h : left n listed = 0) {j : Nat} (hj : j < n) : listed.getD j true = true := by
  have h1 := List.length_eq_zero_iff.1 h
  refine Classical.byContradiction fun hne => ?_
  have : j ∈ (List.range n).filter fun j => !listed.getD j true := List.mem_filter.2 ⟨List.mem_range.2 hj, by simpa using hne⟩
  rw [h1] at this
  cases this
set_option maxRecDepth 100000 in
theorem left_less {n i : Nat} {listed : Array Bool} (hi : i < n) (h : listed.getD i true = false) : left n (listed.setIfInBounds i true) < left n listed := by
  have hsz : i < listed.size := by
    rcases Nat.lt_or_ge i listed.size with h' | h'
    · exact h'
    · simp [Array.getElem?_eq_none h'] at h
  have hown : (listed.setIfInBounds i true).getD i true = true := by simp [hsz]
  have key : ∀ l : List Nat, i ∈ l → (l.filter fun j => !(listed.setIfInBounds i true).getD j true).length < (l.filter fun j => !listed.getD j true).length := by
    intro l
    have hle : ∀ l : List Nat, (l.filter fun j => !(listed.setIfInBounds i true).getD j true).length ≤ (l.filter fun j => !listed.getD j true).length := by
      intro l
      induction l with
      | nil => exact Nat.le_refl _
      | cons x l ih =>
        by_cases hx : x = i
        · subst hx
          rw [List.filter_cons, List.filter_cons, hown, h]
          simp only [Bool.not_true, Bool.false_eq_true, if_false, Bool.not_false, if_true, List.length_cons]
          omega
        · rw [List.filter_cons, List.filter_cons, getD_set_ne true (fun e => hx e.symm)]
          split
          · simp only [List.length_cons]; omega
          · exact ih
    induction l with
    | nil => intro hm; cases hm
    | cons x l ih =>
      intro hm
      by_cases hx : x = i
      · subst hx
        rw [List.filter_cons, List.filter_cons, hown, h]
        simp only [Bool.not_true, Bool.false_eq_true, if_false, Bool.not_false, if_true, List.length_cons]
        have := hle l
        omega
      · have hm' : i ∈ l := (List.mem_cons.1 hm).resolve_left fun e => hx e.symm
        rw [List.filter_cons, List.filter_cons, getD_set_ne true (fun e => hx e.symm)]
        split
        · simp only [List.length_cons]; have := ih hm'; omega
        · exact ih hm'
  exact key _ (List.mem_range.2 hi)
set_option maxRecDepth 100000 in
theorem calm_any {md : Region.Mode} (hok : calmOk md ops = true) {ps : List (Oper × Value)} (hps : ps.map Prod.fst = ops.toList) {a0 : Act}
    (hcalm : ∀ (i : Nat) o v, ps[i]? = some (o, v) → Calm P ops S o v (putL (fun j => decide (j < 0 + i)) ps 0 a0)) (hQ : ∀ w, S w → Q .normal (putL (fun _ => true) ps 0 a0) w) :
    ∀ (fuel : Nat) (listed : Array Bool) (w : World), listed.size = ops.size → left ops.size listed ≤ fuel → S w → wpAny P md ops Q fuel listed (putL (fun j => listed.getD j true) ps 0 a0) w := by
  obtain ⟨hsel, hat⟩ := calmOk_spec hok
  have hop : ∀ (i : Nat) o v, ps[i]? = some (o, v) → ops[i]? = some o := fun i o v h => by
    have : (ps.map Prod.fst)[i]? = some o := by rw [List.getElem?_map, h]; rfl
    rw [hps] at this
    simpa using this
  have hpo : ∀ (i : Nat) o, ops[i]? = some o → ∃ v, ps[i]? = some (o, v) := fun i o h => by
    have : (ps.map Prod.fst)[i]? = some o := by rw [hps]; simpa using h
    rw [List.getElem?_map] at this
    cases hp : ps[i]? with
    | none => rw [hp] at this; cases this
    | some p =>
      rw [hp] at this
      obtain ⟨o', v⟩ := p
      simp only [Option.map_some, Option.some.injEq] at this
      subst this
      exact ⟨v, rfl⟩
  have hlen : ps.length = ops.size := by have := congrArg List.length hps; simpa using this
  -- nothing may come up: all are listed
  have hall : ∀ (listed : Array Bool), listed.size = ops.size → Region.ready md ops listed = [] → ∀ j, j < ops.size → listed.getD j true = true := by
    intro listed hsz hr j
    induction j using Nat.strongRecOn with
    | _ j ih =>
      intro hj
      refine Classical.byContradiction fun hne => ?_
      have hne' : listed.getD j true = false := by simpa using hne
      have hoj : ops[j]? = some ops[j] := Array.getElem?_eq_getElem hj
      have : j ∈ Region.ready md ops listed := mem_ready.2 ⟨hne', _, hoj, fun e he _ => by
        have hlt := (hat j _ hoj).1 e he
        have := ih e.on hlt (by omega)
        have hes : e.on < listed.size := by omega
        simpa [hes] using this⟩
      rw [hr] at this
      cases this
  have hfin : ∀ (listed : Array Bool), (∀ j, j < ops.size → listed.getD j true = true) → putL (fun j => listed.getD j true) ps 0 a0 = putL (fun _ => true) ps 0 a0 := by
    have key : ∀ (qs : List (Oper × Value)) (k : Nat) (a : Act) (f : Nat → Bool), (∀ j, k ≤ j → j < k + qs.length → f j = true) → putL f qs k a = putL (fun _ => true) qs k a := by
      intro qs
      induction qs with
      | nil => intro k a f _; rfl
      | cons q qs ih =>
        intro k a f h
        obtain ⟨o, v⟩ := q
        rw [putL, putL, h k (Nat.le_refl _) (by simp)]
        exact ih (k + 1) _ f fun j h1 h2 => h j (by omega) (by simp at h2 ⊢; omega)
    exact fun listed h => key ps 0 a0 _ fun j _ h2 => h j (by omega)
  intro fuel
  induction fuel with
  | zero =>
    intro listed w hsz hle hS
    have hl : ∀ j, j < ops.size → listed.getD j true = true := fun j hj => left_zero (by omega) hj
    refine ⟨?_, by rw [hfin listed hl]; exact hQ w hS⟩
    rw [List.eq_nil_iff_forall_not_mem]
    intro j hj
    obtain ⟨h0, o, ho, _⟩ := mem_ready.1 hj
    rw [hl j (Array.getElem?_eq_some_iff.1 ho).1] at h0
    cases h0
  | succ fuel ih =>
    intro listed w hsz hle hS
    refine ⟨fun hr => by rw [hfin listed (hall listed hsz hr)]; exact hQ w hS, fun i hi => ?_⟩
    obtain ⟨h0, o, ho, haft⟩ := mem_ready.1 hi
    obtain ⟨v, hv⟩ := hpo i o ho
    have hc := hcalm i o v hv
    have hlt : i < ops.size := (Array.getElem?_eq_some_iff.1 ho).1
    have hc' : Calm P ops S o v (putL (fun j => listed.getD j true) ps 0 a0) := by
      refine hc.agree (hsel i o · · ho) fun t ht => ?_
      refine putL_agree ps 0 a0 a0 rfl rfl fun j oj vj hj hd => ?_
      rw [Nat.zero_add, Nat.zero_add]
      obtain ⟨h1, e, he, hb, hej⟩ := ((hat i o ho).2 j oj t (hop j oj vj hj) hd).2 ht
      have h2 := haft e he hb
      rw [hej] at h2
      have hjs : j < listed.size := by omega
      have h3 : listed.getD j true = true := by simpa [hjs] using h2
      rw [h3]
      simpa using h1
    refine hc'.wpOp ho hS fun w' hS' => ?_
    have hadd : putL (fun j => (listed.setIfInBounds i true).getD j true) ps 0 a0 = (putL (fun j => listed.getD j true) ps 0 a0).put o.dst v := by
      refine putL_add ps 0 i a0 o v hv (by simpa using h0) ?_ (fun j hj => ?_) fun j o' v' hj hji d hd => ?_
      · have : i < listed.size := by omega
        simp [this]
      · exact getD_set_ne true (by omega)
      · exact ((hat i o ho).2 j o' d (hop j o' v' hj) hd).1 hji
    rw [← hadd]
    exact ih _ w' (by simpa using hsz) (by have := left_less hlt h0; omega) hS'
set_option maxRecDepth 100000 in
/-- The region, in the text's order. -/
theorem wp_region_calm {id : Nat} {a : Act} {w : World} (hm : P.follows .mixedOrders = true) (hok : calmOk .any ops = true) (hS : S w.drew)
    (h : CalmSeq P ops S ops.toList a fun A => ∀ w', S w' → Q .normal A w') : (Code.region id ops true).wp P Q a w := by
  refine wp_region_any hm ?_
  obtain ⟨ps, h1, h2, h3⟩ := CalmSeq.vals ops.toList 0 a h
  have := calm_any hok h1 h3 h2 ops.size (Array.replicate ops.size false) w.drew (by simp) (by
    have := List.length_filter_le (fun j => !(Array.replicate ops.size false).getD j true) (List.range ops.size)
    simpa [left] using this) hS
  have e : putL (fun j => (Array.replicate ops.size false).getD j true) ps 0 a = a := by
    have key : ∀ (qs : List (Oper × Value)) (k : Nat) (a : Act) (f : Nat → Bool), (∀ j, j < k + qs.length → f j = false) → putL f qs k a = a := by
      intro qs
      induction qs with
      | nil => intro k a f _; rfl
      | cons q qs ih =>
        intro k a f h
        obtain ⟨o, v⟩ := q
        rw [putL, h k (by simp)]
        exact ih (k + 1) _ f fun j hj => h j (by simp at hj ⊢; omega)
    refine key ps 0 a _ fun j hj => ?_
    have hl : ps.length = ops.size := by have := congrArg List.length h1; simpa using this
    have : j < ops.size := by omega
    simp [this]
  rw [e] at this
  exact this
end
end Go.Proofs.YthncdjcmlpiebaaGreatDoor
namespace Go.Proofs.YthncdjcmlpiebaaGreatDoor
open Go.ChangeShapes Go.WideShapes Go.ChangeAt Go.RowKit Go.Joins Go.Deep

set_option maxRecDepth 100000 in
theorem Tryz.own_law : ownKnob Tryz.prog.godebug = none := by kernel_rfl
set_option maxRecDepth 100000 in
theorem Tryz.laidOut_law : laidOutB Tryz.prog = true := by kernel_rfl
section
variable {H : Type} {enc : TypeId × Value → H} {P : Program}
variable {W : World} {base : Nat} {spare : Nat → Bool} {held : Bool}
end
end Go.Proofs.YthncdjcmlpiebaaGreatDoor
