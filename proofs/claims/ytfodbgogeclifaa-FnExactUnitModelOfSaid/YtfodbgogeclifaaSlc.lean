/- The library's Clone of a slice of numbers; a slice held against nil; append to a slice that is full. -/
import Derived.Test.YtfodbgogeclifaaNat
import Derived.ArgAppend
import Derived.Lib.SliceRun
namespace Go.Proofs.Ytfodbgogeclifaa
open Go.RowKit
theorem eql_nil (A : Option Addr) (n c n' c' : Nat) (w : World) : (binOp .eql 22 (.slice A n c) (.slice none n' c')).run Try.prog w = .ok (.bool A.isNone) w := Lib.run_eql_slice_nil w 22 3 A n c n' c' Try.underlying22
theorem neq_nil (A : Option Addr) (n c n' c' : Nat) (w : World) : (binOp .neq 22 (.slice A n c) (.slice none n' c')).run Try.prog w = .ok (.bool (!A.isNone)) w := run_neq_slice_nil_any w 22 3 A n c n' c' Try.underlying22
/-- 'append(v, xs...)', v the call's own and empty. -/
theorem wpList_catN {ops : Array Oper} {rest : List Oper} {o : Oper} {a : Act} {Q : Exit → Act → World → Prop} {w : World} (hgd : o.guard = none) (s x : Operand)
    (ho : o.op = .call { callee := .builtin .append, args := #[s, x], argTypes := #[22, 22] })
    {base c m d : Nat} {A : Option Addr} {ad : Addr} {ys : List Int} (hs : a.eval s = .slice A 0 c) (hown : OwnI w base A 0 c [])
    (hx : a.eval x = .slice (some ad) m d) (hri : RI w (some ad) m ys) (hn : m ≤ 1048576) (hbase : base ≤ w.heap.size)
    (h : ∀ A' c' w', OwnI w' base A' m c' ys → Below base w w' → w.grownBy w' (Value.slice A 0 c).ownBlock → wpList Try.prog ops Q rest (a.put o.dst (.slice A' m c')) w') : wpList Try.prog ops Q (o :: rest) a w :=
  wpList_plain hgd fun K hK => by
    have hw : Region.wanted o (yielded ops a.tmps) = true := by simp [Region.wanted, hgd]
    have := step_append_new (ops := ops) (K := K) (Q := Q) (E := False) hgd s x ho hs hown hx hri hn hbase fun A' c' w' h1 h2 h3 => hK _ _ (h A' c' w' h1 h2 h3)
    rwa [if_pos hw] at this
/-- 'append(xs[:k:k], y)': a new row. -/
theorem wpList_more {ops : Array Oper} {rest : List Oper} {o : Oper} {a : Act} {Q : Exit → Act → World → Prop} {w : World} (hgd : o.guard = none) (s x : Operand)
    (ho : o.op = .call { callee := .builtin .append, args := #[s, x], argTypes := #[22, 22] })
    {n : Nat} {A : Option Addr} {xs : List Int} (y : Int) (hs : a.eval s = .slice A n n) (hA : A = none → n = 0) (hri : RI w A n xs)
    (ad : Addr) (hx : a.eval x = .slice (some ad) 1 1) (hc : w.cell? ad = some (.int .i64 y)) (hn : n ≤ 1048576)
    (h : ∀ A' c' w', OwnI w' w.heap.size A' (n + 1) c' (xs ++ [y]) → Up w w' → wpList Try.prog ops Q rest (a.put o.dst (.slice A' (n + 1) c')) w') : wpList Try.prog ops Q (o :: rest) a w := by
  obtain ⟨i0, hi, hz0, hz1, hz2⟩ := info_parts Try.info3
  have hl : xs.length = n := hri.1
  refine wpList_append_grows w hgd s x 22 ho 3 i0 (.int .i64 0) 1 8 Try.underlying22 hi hz0 hz1 hz2 rfl (by decide) A n n (xs.map (Value.int .i64)) hs (fun e => ⟨hA e, hA e⟩) (by simp [hl]) ?_ ad 1 1 [.int .i64 y] hx rfl ?_ ?_ (by omega) (by unfold maxLen; omega) (by omega) ?_
  · intro b hb j u hj
    rw [List.getElem?_map] at hj
    rcases hy : xs[j]? with _ | z
    · rw [hy] at hj; cases hj
    · rw [hy] at hj
      have hj' : j < xs.length := by
        rcases Nat.lt_or_ge j xs.length with h | h
        · exact h
        · rw [List.getElem?_eq_none h] at hy; cases hy
      obtain ⟨ad', e, _, hcc⟩ := hri.at_ (k := j) (by omega)
      rw [hb] at e
      injection e with e
      subst e
      rw [hcc]
      simp only [Option.map_some, Option.some.injEq] at hj
      rw [List.getD_eq_getElem?_getD, hy, ← hj]
      rfl
  · intro j u hj
    match j, hj with
    | 0, hj => simp at hj; subst hj; simpa [Addr.add] using hc
  · intro u hu; simp at hu; subst hu; rfl
  · intro v' w' hown' hg
    have hb : Up w w' := (Below.refl _ _).grown hg (Nat.le_refl _) fun k hk => by cases hk
    have hex : ∃ A' c', v' = .slice A' (n + 1) c' := by
      rcases hown'.2 with ⟨_, h0⟩ | ⟨g, cap, cur, hv, _⟩
      · omega
      · exact ⟨_, _, hv⟩
    obtain ⟨A', c', rfl⟩ := hex
    exact h A' c' w' (by unfold OwnI; rw [List.map_append]; exact hown') hb
set_option maxHeartbeats 1000000 in
theorem slClone_any (bd : Addr) (m d : Nat) (xs : List Int) (w : World) (hL : RI w (some bd) m xs) (h0 : 0 < m) (hm : m ≤ 1048576) :
    Calls Try.prog 107 #[.slice (some bd) m d] w fun e w' => ∃ g c, e = .returned (.slice (some ⟨g, 0, none⟩) m c) ∧ OwnI w' w.heap.size (some ⟨g, 0, none⟩) m c xs ∧ Below w.heap.size w w' := by
  have hq := eql_nil (some bd) m d 0 0
  have hown0 := OwnI.made (base := w.heap.size) w (Nat.le_refl _)
  go_enter Try.func107, Try.ntmps107
  go_wp2_with (at_builtin; refine wpList_catN rfl (.tmp 5) (.tmp 6) rfl rfl hown0 rfl (hL.alloc _) hm (by simp) ?_; intro A1 c1 w1 hown1 hb1 hg1)
  go_ret
  obtain ⟨g, rfl⟩ := hown1.form h0
  exact ⟨g, c1, rfl, hown1, ((Below.refl _ w).alloc (Nat.le_refl _) _).trans hb1⟩
end Go.Proofs.Ytfodbgogeclifaa
