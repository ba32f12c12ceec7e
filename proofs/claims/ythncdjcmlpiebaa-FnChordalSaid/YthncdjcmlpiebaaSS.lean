/- Rows of rows of numbers that are the call's own. -/
import Derived.Test.YthncdjcmlpiebaaApp2
import Derived.Test.YthncdjcmlpiebaaW3A
namespace Go.Proofs.Ythncdjcmlpiebaa
open Go.RowKit
theorem Try.infoS : (Try.prog.info? 24).map (fun i => (i.zero, i.size, i.bytes)) = some (some (.slice none 0 0), 1, 24) := by kernel_rfl
/-- A row: where it lies, its room, what it holds. -/
abbrev RowP := (Option Addr × Nat) × List Int
def rowV (p : RowP) : Value := .slice p.1.1 p.2.length p.1.2
/-- The slice '.slice A n c' of rows is the call's own, its rows too, each in a block of its own. -/
structure OwnS (w : World) (base : Nat) (A : Option Addr) (n c : Nat) (ps : List RowP) : Prop where
  top : w.ownsRow base 24 1 (.slice A n c) n (ps.map rowV)
  rows : ∀ p ∈ ps, OwnI w base p.1.1 p.2.length p.1.2 p.2
  apart : ps.Pairwise fun p q => ∀ j, (rowV p).ownBlock = some j → (rowV q).ownBlock ≠ some j
section
variable {w w' : World} {base n c : Nat} {A : Option Addr} {ps : List RowP}
theorem OwnS.len (h : OwnS w base A n c ps) : ps.length = n := by have := h.top.1; simpa using this
theorem OwnS.nil_ (w : World) (base : Nat) : OwnS w base none 0 0 [] := ⟨World.ownsRow_nil _ _ _ _, (fun _ h => by cases h), List.Pairwise.nil⟩
theorem OwnS.made {g : Nat} (h : w.heap.size = g) (hb : base ≤ g) : OwnS (w.alloc (.cells #[] 24)) base (some ⟨g, 0, none⟩) 0 0 [] := by
  subst h
  exact ⟨World.ownsRow_made w #[] 0 hb (by decide) (by simp), (fun _ h => by cases h), List.Pairwise.nil⟩
theorem ownsRow_up {base n : Nat} {e : TypeId} {v : Value} {xs : List Value} (h : w.ownsRow base e 1 v n xs) (hb : Below w.heap.size w w') : w'.ownsRow base e 1 v n xs := by
  rcases hv : v.ownBlock with _ | g
  · exact World.ownsRow.kept h (only_of_below hb none) (.inl hv)
  · exact World.ownsRow.kept h (only_of_below hb none) (.inr (by rw [hv]; simp))
theorem OwnS.up (h : OwnS w base A n c ps) (hb : Below w.heap.size w w') : OwnS w' base A n c ps := ⟨ownsRow_up h.top hb, fun p hp => (h.rows p hp).up hb, h.apart⟩
theorem OwnS.more {base' : Nat} (h : OwnS w base A n c ps) (hb : base' ≤ base) : OwnS w base' A n c ps := by
  refine ⟨?_, fun p hp => (h.rows p hp).more hb, h.apart⟩
  refine ⟨h.top.1, ?_⟩
  rcases h.top.2 with hn | ⟨g, cap, cur, hv, hg, rest⟩
  · exact .inl hn
  · exact .inr ⟨g, cap, cur, hv, by omega, rest⟩
theorem OwnS.alloc (h : OwnS w base A n c ps) (o : Obj) : OwnS (w.alloc o) base A n c ps := ⟨World.ownsRow.alloc h.top o, fun p hp => (h.rows p hp).alloc o, h.apart⟩
theorem OwnS.block (h : OwnS w base A n c ps) : ∀ k, (Value.slice A n c).ownBlock = some k → base ≤ k ∧ k < w.heap.size := World.ownsRow.lt h.top
/-- Row k. -/
theorem OwnS.at_ {k : Nat} (h : OwnS w base A n c ps) (hk : k < n) : ∃ g p, A = some ⟨g, 0, none⟩ ∧ ps[k]? = some p ∧ w.cell? ((⟨g, 0, none⟩ : Addr).add k) = some (rowV p) ∧ OwnI w base p.1.1 p.2.length p.1.2 p.2 := by
  have hl := h.len
  have hk' : k < ps.length := by omega
  rcases h.top.2 with ⟨_, h0⟩ | ⟨g, cap, cur, hv, _⟩
  · omega
  · injection hv with e1 e2 e3
    subst e1
    refine ⟨g, ps[k], rfl, List.getElem?_eq_getElem hk', World.ownsRow.cells h.top rfl k _ (by rw [List.getElem?_map, List.getElem?_eq_getElem hk']; rfl), h.rows _ (List.getElem_mem hk')⟩
/-- A block of a row is no block of the outer slice. -/
theorem OwnI.ne_top {base' m d : Nat} {B : Option Addr} {xs : List Int} {vs : List Value} (h : OwnI w base' B m d xs) (ht : w.ownsRow base 24 1 (.slice A n c) n vs) : (Value.slice B m d).ownBlock = none ∨ (Value.slice B m d).ownBlock ≠ (Value.slice A n c).ownBlock := by
  rcases h.2 with ⟨hv, _⟩ | ⟨g, cap, cur, hv, _, hg, _⟩
  · exact .inl (by rw [hv]; rfl)
  · rcases ht.2 with ⟨hv', _⟩ | ⟨g', cap', cur', hv', _, hg', _⟩
    · exact .inr (by rw [hv, hv']; simp [Value.ownBlock])
    · refine .inr fun e => ?_
      rw [hv, hv'] at e
      have e2 : g = g' := by simpa [Value.ownBlock] using e
      subst e2
      exact absurd rfl (Blk.ne_ (t := 3) (t' := 24) hg hg' (by decide))
end
/-- A row more. -/
theorem wpList_pushS {ops : Array Oper} {rest : List Oper} {o : Oper} {a : Act} {Q : Exit → Act → World → Prop} {w : World} (hgd : o.guard = none) (s x : Operand)
    (ho : o.op = .call { callee := .builtin .append, args := #[s, x], argTypes := #[38, 38] }) {base n c : Nat} {A : Option Addr} {ps : List RowP} (p : RowP) (hs : a.eval s = .slice A n c) (hown : OwnS w base A n c ps)
    (ad : Addr) (hx : a.eval x = .slice (some ad) 1 1) (hc : w.cell? ad = some (rowV p)) (hrow : OwnI w base p.1.1 p.2.length p.1.2 p.2) (hap : ∀ q ∈ ps, ∀ j, (rowV q).ownBlock = some j → (rowV p).ownBlock ≠ some j) (hn : n ≤ 1048576) (hbase : base ≤ w.heap.size)
    (h : ∀ A' c' w', OwnS w' base A' (n + 1) c' (ps ++ [p]) → w.grownBy w' (Value.slice A n c).ownBlock → Below base w w' → wpList Try.prog ops Q rest (a.put o.dst (.slice A' (n + 1) c')) w') : wpList Try.prog ops Q (o :: rest) a w :=
  wpList_plain hgd fun K hKK => by
    obtain ⟨i0, hi, hz0, hz1, hz2⟩ := info_parts Try.infoS
    refine wp_push2 s x 38 24 ho i0 (.slice none 0 0) 24 Try.underlying38 hi hz0 hz1 hz2 rfl hs hown.top ad _ hx hc rfl (by unfold maxLen; omega) (by omega) hbase fun A' c' w' h2 h3 _ => ?_
    refine hKK _ _ (h A' c' w' ⟨by rw [List.map_append]; exact h2, fun q hq => ?_, ?_⟩ h3 ((Below.refl _ _).grown h3 hbase fun k hk => (World.ownsRow.lt hown.top k hk).1))
    · rcases List.mem_append.1 hq with hq | hq
      · exact (hown.rows q hq).kept h3 ((hown.rows q hq).ne_top hown.top)
      · obtain rfl : q = p := by simpa using hq
        exact hrow.kept h3 (hrow.ne_top hown.top)
    · rw [List.pairwise_append]
      exact ⟨hown.apart, List.pairwise_singleton _ _, fun q hq r hr => by
        obtain rfl : r = p := by simpa using hr
        exact hap q hq⟩
/-- A slice of rows, of the call's own making. -/
def GivesS (xss : List (List Int)) (w : World) (e : Ending) (w' : World) : Prop :=
  ∃ A c ps, ps.map Prod.snd = xss ∧ e = .returned (.slice A ps.length c) ∧ OwnS w' w.heap.size A ps.length c ps ∧ Below w.heap.size w w'
end Go.Proofs.Ythncdjcmlpiebaa
