/- Results that are rows of rows: held one against the other, marked, read. -/
import Derived.Test.YthncdjcmlpiebaaSS
import Derived.Test.YthncdjcmlpiebaaBasA
namespace Go.Proofs.Ythncdjcmlpiebaa
open Go.RowKit
set_option maxRecDepth 100000
theorem addS (g k : Nat) : (⟨g, 0, none⟩ : Addr).add k = ⟨g, k, none⟩ := by unfold Addr.add; split <;> simp_all
/-- How many numbers there are. -/
def sumL : List (List Int) → Nat
  | [] => 0
  | x :: t => x.length + sumL t
theorem sumL_app (xs ys : List (List Int)) : sumL (xs ++ ys) = sumL xs + sumL ys := by
  induction xs with
  | nil => simp [sumL]
  | cons x t ih => rw [List.cons_append, sumL, sumL, ih]; omega
def snds (ps : List RowP) : List (List Int) := ps.map Prod.snd
theorem sumL_mem {xs : List (List Int)} {x : List Int} (h : x ∈ xs) : x.length ≤ sumL xs := by
  induction xs with
  | nil => cases h
  | cons y t ih =>
    rw [sumL]
    rcases List.mem_cons.1 h with rfl | h
    · omega
    · have := ih h; omega
/-- The rows marked from k on. -/
def marksS (k : Nat) : List RowP → List RowP
  | [] => []
  | p :: t => (p.1, marks k p.2.length) :: marksS (k + p.2.length) t
theorem marksS_len (k : Nat) : ∀ ps, (marksS k ps).length = ps.length
  | [] => rfl
  | p :: t => by rw [marksS, List.length_cons, List.length_cons, marksS_len]
theorem marksS_app (ps qs : List RowP) : ∀ k, marksS k (ps ++ qs) = marksS k ps ++ marksS (k + sumL (snds ps)) qs := by
  induction ps with
  | nil => intro k; simp [marksS, snds, sumL]
  | cons p t ih =>
    intro k
    rw [List.cons_append, marksS, marksS, ih, List.cons_append]
    show _ = _ :: (marksS (k + p.2.length) t ++ marksS (k + sumL (p.2 :: snds t)) qs)
    rw [sumL, Nat.add_assoc]
theorem marksS_rowV (k : Nat) : ∀ ps, (marksS k ps).map rowV = ps.map rowV := by
  intro ps
  induction ps generalizing k with
  | nil => rfl
  | cons p t ih => rw [marksS, List.map_cons, List.map_cons, ih]; simp [rowV, marks_len]
theorem marksS_sum (k : Nat) : ∀ ps, sumL (snds (marksS k ps)) = sumL (snds ps) := by
  intro ps
  induction ps generalizing k with
  | nil => rfl
  | cons p t ih =>
    show (marks k p.2.length).length + sumL (snds (marksS (k + p.2.length) t)) = p.2.length + sumL (snds t)
    rw [marks_len, ih]
section
variable {w w' : World} {base n c : Nat} {A : Option Addr} {ps : List RowP}
theorem ownsRow_kept {e : TypeId} {v : Value} {xs : List Value} {row : Option Nat} (h : w.ownsRow base e 1 v n xs) (hg : w.grownBy w' row) (hne : v.ownBlock ≠ row ∨ v.ownBlock = none) : w'.ownsRow base e 1 v n xs :=
  World.ownsRow.kept h hg (hne.elim .inr .inl)
/-- What happens below leaves it as it is. -/
theorem OwnS.kept_lt {g : Nat} (h : OwnS w base A n c ps) (hg : w.grownBy w' (some g)) (hlt : g < base) : OwnS w' base A n c ps := by
  refine ⟨World.ownsRow.kept h.top hg ?_, fun p hp => ?_, h.apart⟩
  · rcases hv : (Value.slice A n c).ownBlock with _ | k
    · exact .inl rfl
    · refine .inr fun e => ?_
      injection e with e
      have := (h.block k hv).1
      omega
  · refine (h.rows p hp).kept hg ?_
    rcases hv : (Value.slice p.1.1 p.2.length p.1.2).ownBlock with _ | k
    · exact .inl rfl
    · refine .inr fun e => ?_
      injection e with e
      have := ((h.rows p hp).block k hv).1
      omega
/-- One row's numbers are others now. -/
theorem OwnS.put_row {xs ys : List RowP} {p : RowP} {zs : List Int} (h : OwnS w base A n c (xs ++ p :: ys)) (hz : zs.length = p.2.length) (hrow : OwnI w' base p.1.1 p.2.length p.1.2 zs) (hg : w.grownBy w' (Value.slice p.1.1 p.2.length p.1.2).ownBlock) : OwnS w' base A n c (xs ++ (p.1, zs) :: ys) := by
  have hp := h.rows p (by simp)
  have hrv : rowV (p.1, zs) = rowV p := by simp [rowV, hz]
  have hap := h.apart
  rw [List.pairwise_append] at hap
  obtain ⟨hx, hpy, hxy⟩ := hap
  rw [List.pairwise_cons] at hpy
  have other : ∀ q ∈ xs ++ ys, OwnI w' base q.1.1 q.2.length q.1.2 q.2 := by
    intro q hq
    have hq' : q ∈ xs ++ p :: ys := by
      rcases List.mem_append.1 hq with h1 | h1
      · exact List.mem_append.2 (.inl h1)
      · exact List.mem_append.2 (.inr (List.mem_cons_of_mem _ h1))
    refine (h.rows q hq').kept hg ?_
    rcases hv : (Value.slice q.1.1 q.2.length q.1.2).ownBlock with _ | k
    · exact .inl rfl
    · refine .inr fun e => ?_
      rcases List.mem_append.1 hq with h1 | h1
      · exact hxy q h1 p (by simp) k hv e.symm
      · exact hpy.1 q h1 k e.symm hv
  refine ⟨?_, fun q hq => ?_, ?_⟩
  · have ht := h.top
    rw [show (xs ++ (p.1, zs) :: ys).map rowV = (xs ++ p :: ys).map rowV by simp [hrv]]
    refine World.ownsRow.kept ht hg ?_
    rcases hp.ne_top ht with e | e
    · rcases hv : (Value.slice A n c).ownBlock with _ | k
      · exact .inl rfl
      · exact .inr (by rw [e]; simp)
    · exact .inr (Ne.symm e)
  · rcases List.mem_append.1 hq with h1 | h1
    · exact other q (List.mem_append.2 (.inl h1))
    · rcases List.mem_cons.1 h1 with rfl | h1
      · show OwnI w' base p.1.1 zs.length p.1.2 zs
        rw [hz]; exact hrow
      · exact other q (List.mem_append.2 (.inr h1))
  · rw [List.pairwise_append]
    refine ⟨hx, ?_, fun q hq r hr => ?_⟩
    · rw [List.pairwise_cons]
      exact ⟨fun q hq j h1 => hpy.1 q hq j (by rw [← hrv]; exact h1), hpy.2⟩
    · rcases List.mem_cons.1 hr with rfl | hr
      · intro j h1 h2
        exact hxy q hq p (by simp) j h1 (by rw [← hrv]; exact h2)
      · exact hxy q hq r (List.mem_cons_of_mem _ hr)
theorem OwnS.split {k : Nat} (h : OwnS w base A n c ps) (hk : k < n) : ∃ g p, A = some ⟨g, 0, none⟩ ∧ ps = ps.take k ++ p :: ps.drop (k + 1) ∧ w.cell? ⟨g, k, none⟩ = some (rowV p) ∧ g < w.heap.size ∧ OwnI w base p.1.1 p.2.length p.1.2 p.2 ∧ ps[k]? = some p := by
  obtain ⟨g, p, rfl, hp, hc, hown⟩ := h.at_ hk
  have hk' : k < ps.length := by rw [h.len]; exact hk
  rw [addS] at hc
  refine ⟨g, p, rfl, ?_, hc, (h.block g rfl).2, hown, hp⟩
  have e : ps[k] = p := by rw [List.getElem?_eq_getElem hk'] at hp; injection hp
  rw [← e, List.getElem_cons_drop, List.take_append_drop]
end
theorem totS_le {ps : List RowP} {xss : List (List Int)} (h : ps.map Prod.snd = xss) (hl : sumL xss ≤ 1048576) : sumL (snds ps) ≤ 1048576 := by rw [snds, h]; exact hl
theorem numS_le {ps : List RowP} {xss : List (List Int)} (h : ps.map Prod.snd = xss) (hl : xss.length ≤ 1048576) : ps.length ≤ 1048576 := by rw [← h] at hl; simpa using hl
/-- Rows of rows and a flag. -/
def GivesSB (xss : List (List Int)) (b : Bool) (w : World) (e : Ending) (w' : World) : Prop :=
  ∃ A c ps, ps.map Prod.snd = xss ∧ e = .returned (.tuple #[.slice A ps.length c, .bool b]) ∧ OwnS w' w.heap.size A ps.length c ps ∧ Below w.heap.size w w'
end Go.Proofs.Ythncdjcmlpiebaa
