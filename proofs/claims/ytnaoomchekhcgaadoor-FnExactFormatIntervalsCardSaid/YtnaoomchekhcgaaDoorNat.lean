/- Rows of natural numbers as cells; what a store or an append elsewhere leaves; append as one step of a region that draws. -/
import Derived.Test.YtnaoomchekhcgaaDoorW3
import Derived.Test.YtnaoomchekhcgaaDoorLaw3
import Derived.StillTailTactics
import Derived.Deep.RegionHeld3
namespace Go.Proofs.YtnaoomchekhcgaaDoor
open Go.RowKit
/-- A row of numbers as cells. -/
def natCells (o : List Nat) : Array Value := ((ints o).map (Value.int .i64)).toArray
theorem natCells_get {o : List Nat} {j : Nat} (h : j < o.length) : (natCells o)[j]? = some (.int .i64 (nb o j)) := by
  simp [natCells, ints, nb, List.getD, List.getElem?_eq_getElem h]
theorem natCells_set (o : List Nat) (x y : Nat) : (natCells o).setIfInBounds x (.int .i64 (y : Int)) = natCells (o.set x y) := by
  simp only [natCells, ints, List.setIfInBounds_toArray, List.map_set]
theorem natCells_zero (n : Nat) : natCells (List.replicate n 0) = zeros n := by simp [natCells, ints, zeros]
theorem natCells_size (o : List Nat) : (natCells o).size = o.length := by simp [natCells, ints]
theorem Blk.nat {w : World} {g j : Nat} {t : TypeId} {o : List Nat} (h : Blk w g t (natCells o)) (hj : j < o.length) : w.cell? ⟨g, j, none⟩ = some (.int .i64 (nb o j)) := by rw [h.cell, natCells_get hj]
theorem Blk.gives {w w' : World} {g : Nat} {o : List Nat} (h : Blk w' g 3 (natCells o)) (hg : w.heap.size ≤ g) (hn : o.length ≤ 1048576) (hb : Below w.heap.size w w') : GivesI (ints o) w (.returned (.slice (some ⟨g, 0, none⟩) o.length o.length)) w' := by
  refine givesI_of ?_ hb
  have := h.own (base := w.heap.size) (n := o.length) hg (natCells_size o) (by unfold maxLen; omega)
  unfold OwnI
  exact this
theorem grown_setCell (w : World) (p : Addr) (u : Value) : w.grownBy (w.setCell p u) (some p.block) :=
  ⟨rfl, rfl, rfl, by simp, fun i _ hne => Below.heap_setCell w p u i (fun e => hne (by rw [e]))⟩
theorem grown_drew {w w' : World} {row : Option Nat} (h : w.grownBy w' row) : w.grownBy w'.drew row := ⟨h.os, h.tape, h.output, h.size, h.block⟩
/-- What is the call's own, in blocks from base on, is as it was behind a store below. -/
theorem OwnI.far_store {w : World} {base n c g i : Nat} {A : Option Addr} {xs : List Int} (h : OwnI w base A n c xs) (hg : g < base) (u : Value) : OwnI ((w.setCell ⟨g, i, none⟩ u).drew) base A n c xs := by
  refine OwnI.drew ?_
  rcases hv : (Value.slice A n c).ownBlock with _ | k
  · exact h.kept (grown_setCell w ⟨g, i, none⟩ u) (.inl hv)
  · refine h.kept (grown_setCell w ⟨g, i, none⟩ u) (.inr ?_)
    have := (h.block k hv).1
    rw [hv]
    intro e
    injection e with e
    subst e
    exact absurd hg (Nat.not_lt.2 this)

theorem OwnI.cap {w : World} {base n c : Nat} {A : Option Addr} {xs : List Int} (h : OwnI w base A n c xs) : n ≤ c ∧ c ≤ 9223372036854775807 := by
  have hx : (xs.map (Value.int .i64)).length = n := by have := h.1; omega
  rcases h.2 with ⟨hv, h0⟩ | ⟨g, cap, cur, hv, _, _, h1, h2, _⟩
  · injection hv with _ h1 h2
    omega
  · injection hv with _ h3 h4
    unfold maxLen at h2
    omega
/-- 'append(v, xs...)', v the call's own, as one step of a region that draws. -/
theorem step_append_own {ops : Array Oper} {o : Oper} {a : Act} {w : World} {K : Act → World → Prop} {Q : Exit → Act → World → Prop} {E : Prop}
    (hgd : o.guard = none) (s x : Operand) (ho : o.op = .call { callee := .builtin .append, args := #[s, x], argTypes := #[22, 22] })
    {base n c m d : Nat} {A : Option Addr} {ad : Addr} {xs ys : List Int} (hs : a.eval s = .slice A n c) (hown : OwnI w base A n c xs)
    (hx : a.eval x = .slice (some ad) m d) (hri : RI w (some ad) m ys) (hn : n + m ≤ 1048576) (hbase : base ≤ w.heap.size)
    (hK : ∀ A' c' w', OwnI w' base A' (n + m) c' (xs ++ ys) → Below base w w' → w.grownBy w' (Value.slice A n c).ownBlock → K (a.put o.dst (.slice A' (n + m) c')) w') :
    if Region.wanted o (yielded ops a.tmps) = true then Oper.wp Tryd.prog o a w K Q else E := by
  have hw : Region.wanted o (yielded ops a.tmps) = true := by simp [Region.wanted, hgd]
  rw [if_pos hw]
  obtain ⟨i0, hi, hz0, hz1, hz2⟩ := info_parts Tryd.info3
  have hl : ys.length = m := hri.1
  refine wp_append_own w s x 22 ho base 3 i0 (.int .i64 0) 1 8 Tryd.underlying22 hi hz0 hz1 hz2 rfl (by decide) _ n _ hs hown ad m d (ys.map (Value.int .i64)) hx (by simp [hl]) ?_ ?_ (by unfold maxLen; omega) (by omega) hbase ?_
  · intro j u hj
    rw [List.getElem?_map] at hj
    rcases hy : ys[j]? with _ | y
    · rw [hy] at hj; cases hj
    · rw [hy] at hj
      have hj' : j < ys.length := by
        rcases Nat.lt_or_ge j ys.length with h | h
        · exact h
        · rw [List.getElem?_eq_none h] at hy; cases hy
      obtain ⟨ad', e, _, hc⟩ := hri.at_ (k := j) (by omega)
      injection e with e
      subst e
      rw [hc]
      simp only [Option.map_some, Option.some.injEq] at hj
      rw [List.getD_eq_getElem?_getD, hy, ← hj]
      rfl
  · intro u hu
    obtain ⟨y, _, rfl⟩ := List.mem_map.1 hu
    rfl
  · intro v' w' hown' hg h3
    have hb : Below base w w' := (Below.refl _ _).grown hg hbase fun k hk => (hown.block k hk).1
    have hex : ∃ A' c', v' = .slice A' (n + m) c' := by
      rcases hown'.2 with ⟨hv, h0⟩ | ⟨g, cap, cur, hv, _⟩
      · exact ⟨none, 0, by rw [hv, h0]⟩
      · exact ⟨_, _, hv⟩
    obtain ⟨A', c', rfl⟩ := hex
    exact hK A' c' w' (by unfold OwnI; rw [List.map_append]; exact hown') hb hg
/-- The same, onto an empty one. -/
theorem step_append_new {ops : Array Oper} {o : Oper} {a : Act} {w : World} {K : Act → World → Prop} {Q : Exit → Act → World → Prop} {E : Prop}
    (hgd : o.guard = none) (s x : Operand) (ho : o.op = .call { callee := .builtin .append, args := #[s, x], argTypes := #[22, 22] })
    {base c m d : Nat} {A : Option Addr} {ad : Addr} {ys : List Int} (hs : a.eval s = .slice A 0 c) (hown : OwnI w base A 0 c [])
    (hx : a.eval x = .slice (some ad) m d) (hri : RI w (some ad) m ys) (hn : m ≤ 1048576) (hbase : base ≤ w.heap.size)
    (hK : ∀ A' c' w', OwnI w' base A' m c' ys → Below base w w' → w.grownBy w' (Value.slice A 0 c).ownBlock → K (a.put o.dst (.slice A' m c')) w') :
    if Region.wanted o (yielded ops a.tmps) = true then Oper.wp Tryd.prog o a w K Q else E :=
  step_append_own hgd s x ho hs hown hx hri (by omega) hbase fun A' c' w' h1 h2 h3 => by
    have e : 0 + m = m := Nat.zero_add m
    rw [e] at h1 ⊢
    exact hK A' c' w' (by simpa using h1) h2 h3
/-- An own row is kept by a store into a block of another element type. -/
theorem OwnI.other_store {w : World} {base n c g i : Nat} {A : Option Addr} {xs : List Int} {t : TypeId} {cs : Array Value} (h : OwnI w base A n c xs) (hg : Blk w g t cs) (ht : (3 : TypeId) ≠ t) (u : Value) : OwnI (w.setCell ⟨g, i, none⟩ u) base A n c xs := by
  have hne := own_blk_ne (e := 3) h hg ht
  rcases hv : (Value.slice A n c).ownBlock with _ | k
  · exact h.kept (grown_setCell w ⟨g, i, none⟩ u) (.inl hv)
  · exact h.kept (grown_setCell w ⟨g, i, none⟩ u) (.inr hne)
end Go.Proofs.YtnaoomchekhcgaaDoor
