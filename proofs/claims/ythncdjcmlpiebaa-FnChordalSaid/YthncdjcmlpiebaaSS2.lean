/- Rows of rows: an append whose row another slice holds too. -/
import Derived.Test.YthncdjcmlpiebaaLaw5
import Derived.Test.YthncdjcmlpiebaaW2e
namespace Go.Proofs.Ythncdjcmlpiebaa
open Go.RowKit
/-- Row k of a slice of arcs. -/
theorem OwnS.arcE {w : World} {base n c k : Nat} {A : Option Addr} {ps : List RowP} {l : List (Nat × Nat)} (h : OwnS w base A n c ps) (hl : ps.map Prod.snd = l.map row2) (hk : k < n) :
    ∃ g r d, A = some ⟨g, 0, none⟩ ∧ ∃ hkl : k < l.length, w.cell? ⟨g, k, none⟩ = some (.slice (some ⟨r, 0, none⟩) 2 d) ∧ w.cell? ⟨r, 0, none⟩ = some (.int .i64 (l[k].1 : Nat)) ∧ w.cell? ⟨r, 1, none⟩ = some (.int .i64 (l[k].2 : Nat)) ∧ g < w.heap.size ∧ r < w.heap.size ∧ OwnI w base (some ⟨r, 0, none⟩) 2 d [(l[k].1 : Int), (l[k].2 : Int)] ∧ ps[k]? = some ((some ⟨r, 0, none⟩, d), [(l[k].1 : Int), (l[k].2 : Int)]) := by
  obtain ⟨g, p, rfl, _, hc, hg, hown, hpk⟩ := h.split hk
  have hll : l.length = n := by have := congrArg List.length hl; simp at this; rw [← this, h.len]
  have hkl : k < l.length := by omega
  have hp : p.2 = row2 l[k] := by
    have h1 := congrArg (fun x => x[k]?) hl
    simp only [List.getElem?_map, hpk, Option.map_some, List.getElem?_eq_getElem hkl, Option.some.injEq] at h1
    exact h1
  obtain ⟨⟨B, d⟩, xs⟩ := p
  replace hp : xs = row2 l[k] := hp
  replace hown : OwnI w base B xs.length d xs := hown
  replace hc : w.cell? ⟨g, k, none⟩ = some (.slice B xs.length d) := hc
  subst hp
  have hl2 : (row2 l[k]).length = 2 := rfl
  rw [hl2] at hown hc
  obtain ⟨r, e⟩ := hown.form (by omega)
  subst e
  have h0 := hown.ri.at_ (k := 0) (by omega)
  have h1 := hown.ri.at_ (k := 1) (by omega)
  obtain ⟨a0, e0, _, c0⟩ := h0
  obtain ⟨a1, e1, _, c1⟩ := h1
  injection e0 with e0
  injection e1 with e1
  subst e0
  subst e1
  rw [addS] at c0 c1
  exact ⟨g, r, d, rfl, hkl, hc, c0, c1, hg, (hown.block r rfl).2, hown, hpk⟩
/-- Behind an append to another slice of rows. -/
theorem OwnS.kept_topE {w w' : World} {b base' n c n2 c2 : Nat} {A A2 : Option Addr} {qs : List RowP} {vs : List Value} (h : OwnS w b A n c qs) (ht : w.ownsRow base' 24 1 (.slice A2 n2 c2) n2 vs) (hg : w.grownBy w' (Value.slice A2 n2 c2).ownBlock)
    (hne : ∀ j, (Value.slice A2 n2 c2).ownBlock = some j → (Value.slice A n c).ownBlock ≠ some j) : OwnS w' b A n c qs := by
  refine ⟨World.ownsRow.kept h.top hg ?_, fun q hq => (h.rows q hq).kept hg ((h.rows q hq).ne_top ht), h.apart⟩
  rcases hv : (Value.slice A n c).ownBlock with _ | k
  · exact .inl rfl
  · exact .inr fun e => hne k e.symm hv
/-- A row more, the new slice's block said. -/
theorem wpList_pushE {ops : Array Oper} {rest : List Oper} {o : Oper} {a : Act} {Q : Exit → Act → World → Prop} {w : World} (hgd : o.guard = none) (s x : Operand)
    (ho : o.op = .call { callee := .builtin .append, args := #[s, x], argTypes := #[38, 38] }) {base n c : Nat} {A : Option Addr} {ps : List RowP} (p : RowP) (hs : a.eval s = .slice A n c) (hown : OwnS w base A n c ps)
    (ad : Addr) (hx : a.eval x = .slice (some ad) 1 1) (hc : w.cell? ad = some (rowV p)) (hrow : OwnI w base p.1.1 p.2.length p.1.2 p.2) (hap : ∀ q ∈ ps, ∀ j, (rowV q).ownBlock = some j → (rowV p).ownBlock ≠ some j) (hn : n ≤ 1048576) (hbase : base ≤ w.heap.size)
    (h : ∀ A' c' w', OwnS w' base A' (n + 1) c' (ps ++ [p]) → w.grownBy w' (Value.slice A n c).ownBlock → Below base w w' → FreshFrom w (.slice A n c) (.slice A' (n + 1) c') → wpList Try.prog ops Q rest (a.put o.dst (.slice A' (n + 1) c')) w') : wpList Try.prog ops Q (o :: rest) a w :=
  wpList_plain hgd fun K hKK => by
    obtain ⟨i0, hi, hz0, hz1, hz2⟩ := info_parts Try.infoS
    refine wp_push2 s x 38 24 ho i0 (.slice none 0 0) 24 Try.underlying38 hi hz0 hz1 hz2 rfl hs hown.top ad _ hx hc rfl (by unfold maxLen; omega) (by omega) hbase fun A' c' w' h2 h3 h4 => ?_
    refine hKK _ _ (h A' c' w' ⟨by rw [List.map_append]; exact h2, fun q hq => ?_, ?_⟩ h3 ((Below.refl _ _).grown h3 hbase fun k hk => (World.ownsRow.lt hown.top k hk).1) h4)
    · rcases List.mem_append.1 hq with hq | hq
      · exact (hown.rows q hq).kept h3 ((hown.rows q hq).ne_top hown.top)
      · obtain rfl : q = p := by simpa using hq
        exact hrow.kept h3 (hrow.ne_top hown.top)
    · rw [List.pairwise_append]
      exact ⟨hown.apart, List.pairwise_singleton _ _, fun q hq r hr => by
        obtain rfl : r = p := by simpa using hr
        exact hap q hq⟩
theorem shared_apartE {w w0 : World} {bL m d k : Nat} {AL : Option Addr} {ps qs : List RowP} {p : RowP} (hL : OwnS w bL AL m d qs) (hold : ∀ q ∈ ps, (∀ j, (rowV q).ownBlock = some j → j < bL) ∨ q ∈ qs.take k) (hk : qs[k]? = some p) (_ : w0 = w) :
    ∀ q ∈ ps, ∀ j, (rowV q).ownBlock = some j → (rowV p).ownBlock ≠ some j := by
  intro q hq j e1 e2
  have hp := List.mem_of_getElem? hk
  rcases hold q hq with h | h
  · have := h j e1
    have := ((hL.rows p hp).block j e2).1
    omega
  · obtain ⟨i, hi, rfl⟩ := List.mem_iff_getElem.1 h
    rw [List.length_take] at hi
    have hkl : k < qs.length := by
      rcases Nat.lt_or_ge k qs.length with h2 | h2
      · exact h2
      · rw [List.getElem?_eq_none h2] at hk; cases hk
    have e : qs[k] = p := by rw [List.getElem?_eq_getElem hkl] at hk; injection hk
    have := List.pairwise_iff_getElem.1 hL.apart i k (by omega) hkl (by omega) j
    rw [List.getElem_take] at e1
    exact this e1 (by rw [e]; exact e2)
end Go.Proofs.Ythncdjcmlpiebaa
