/- Draws: what the laws of cliques and of chordal graphs draw. Draws: what the laws of cliques and of chordal graphs draw besides. -/
import Derived.Test.YthncdjcmlpiebaaDr9
import Derived.Test.YthncdjcmlpiebaaW6A
namespace Go.Proofs.Ythncdjcmlpiebaa
open Go.RowKit
/-- A graph of the call's own. -/
def DG (P : Int → List Int → Prop) (w : World) (e : Ending) (w' : World) : Prop := ∃ N A m d X, e = .returned (.agg #[.int .i64 N, .slice A m d]) ∧ OwnI w' w.heap.size A m d X ∧ P N X ∧ Below w.heap.size w w'
set_option maxRecDepth 100000 in
theorem drawMaximalCliques_any (B : Option Addr) (n c : Nat) (bs : List Int) (w : World) (hB : RB w B n bs) (hn : n ≤ 1048576) (hlow : ∀ ad, B = some ad → ad.block < w.heap.size) :
    Calls Try.prog 6 #[.slice B n c] w (DG le6 w) := by
  have hU0 : Up w (w.alloc (.cells #[.int .i64 0, .slice none 0 0] 26)) := by go_grown
  have hR0 := Blk.new w 26 #[.int .i64 0, .slice none 0 0]
  have hs0 : (w.alloc (.cells #[.int .i64 0, .slice none 0 0] 26)).heap.size = w.heap.size + 1 := by simp
  obtain ⟨gr, hgr⟩ : ∃ gr, gr = w.heap.size := ⟨_, rfl⟩
  go_enter Try.func6, Try.ntmps6
  go_wp2_with fail
  refine (l1New_any B n c bs _ (hB.up hU0) hn (fun ad e => by have := hlow ad e; omega)).mono ?_
  rintro e w1 ⟨g, rfl, hC1, hb1, hg1⟩
  have hR1 := hR0.up hb1
  have hU1 := Up.then_ hU0 hb1
  rw [← hgr] at hR1 ⊢
  have hgr' : w.heap.size ≤ gr := by omega
  have hne : gr ≠ g := by omega
  clear hgr
  have hlt := hC1.lt
  go_wp2_with fail
  refine (l2Any_any hC1).mono ?_
  rintro e w2 ⟨v, rfl, ⟨N, A, m, d, X, rfl, ho, hX⟩, hC2, hg2⟩
  have hR2 := hR1.grown hg2 (fun e => hne (by injection e))
  have hU2 := hU1.grown hg2 hU1.size (fun k hk => by injection hk with hk; omega)
  have ho2 := ho.more (base' := w.heap.size) (by omega)
  have hyr := hR2.two
  have hf0 := hR2.frozen 0
  have hf1 := hR2.frozen 1
  have fo := (ho2.other_store (i := 0) hR2 (by decide) (.int .i64 N)).other_store (i := 1) (hR2.set_ 0 (.int .i64 N)) (by decide) (.slice A m d)
  have fb := (hU2.setCell (p := ⟨gr, 0, none⟩) hgr' (.int .i64 N)).setCell (p := ⟨gr, 1, none⟩) hgr' (.slice A m d)
  have hfin := ((hR2.set_ 0 (.int .i64 N)).set_ 1 (.slice A m d)).two
  clear hR2 ho2 ho hU2 hC2 hR1 hC1 hg2 hU1 hb1 hU0 hR0
  go_wp2
  generalize (w2.setCell ⟨gr, 0, none⟩ (.int .i64 N)).setCell ⟨gr, 1, none⟩ (.slice A m d) = Wf at fo fb hfin ⊢
  refine bodyPost_ret (v := .agg #[.int .i64 N, .slice A m d]) ?_ rfl ?_
  · simp [results, Try.results6, go_sem, hfin]
  exact ⟨N, A, m, d, X, rfl, fo, hX, fb⟩
set_option maxRecDepth 100000 in
theorem drawSimplicialOf_any (B : Option Addr) (n c : Nat) (bs : List Int) (w : World) (hB : RB w B n bs) (hn : n ≤ 1048576) (hlow : ∀ ad, B = some ad → ad.block < w.heap.size) :
    Calls Try.prog 40 #[.slice B n c] w (DG le6 w) := by
  have hU0 : Up w (w.alloc (.cells #[.int .i64 0, .slice none 0 0] 26)) := by go_grown
  have hR0 := Blk.new w 26 #[.int .i64 0, .slice none 0 0]
  have hs0 : (w.alloc (.cells #[.int .i64 0, .slice none 0 0] 26)).heap.size = w.heap.size + 1 := by simp
  obtain ⟨gr, hgr⟩ : ∃ gr, gr = w.heap.size := ⟨_, rfl⟩
  go_enter Try.func40, Try.ntmps40
  go_wp2_with fail
  refine (l1New_any B n c bs _ (hB.up hU0) hn (fun ad e => by have := hlow ad e; omega)).mono ?_
  rintro e w1 ⟨g, rfl, hC1, hb1, hg1⟩
  have hR1 := hR0.up hb1
  have hU1 := Up.then_ hU0 hb1
  rw [← hgr] at hR1 ⊢
  have hgr' : w.heap.size ≤ gr := by omega
  have hne : gr ≠ g := by omega
  clear hgr
  have hlt := hC1.lt
  go_wp2_with fail
  refine (l2Any_any hC1).mono ?_
  rintro e w2 ⟨v, rfl, ⟨N, A, m, d, X, rfl, ho, hX⟩, hC2, hg2⟩
  have hR2 := hR1.grown hg2 (fun e => hne (by injection e))
  have hU2 := hU1.grown hg2 hU1.size (fun k hk => by injection hk with hk; omega)
  have ho2 := ho.more (base' := w.heap.size) (by omega)
  have hyr := hR2.two
  have hf0 := hR2.frozen 0
  have hf1 := hR2.frozen 1
  have fo := (ho2.other_store (i := 0) hR2 (by decide) (.int .i64 N)).other_store (i := 1) (hR2.set_ 0 (.int .i64 N)) (by decide) (.slice A m d)
  have fb := (hU2.setCell (p := ⟨gr, 0, none⟩) hgr' (.int .i64 N)).setCell (p := ⟨gr, 1, none⟩) hgr' (.slice A m d)
  have hfin := ((hR2.set_ 0 (.int .i64 N)).set_ 1 (.slice A m d)).two
  clear hR2 ho2 ho hU2 hC2 hR1 hC1 hg2 hU1 hb1 hU0 hR0
  go_wp2
  generalize (w2.setCell ⟨gr, 0, none⟩ (.int .i64 N)).setCell ⟨gr, 1, none⟩ (.slice A m d) = Wf at fo fb hfin ⊢
  refine bodyPost_ret (v := .agg #[.int .i64 N, .slice A m d]) ?_ rfl ?_
  · simp [results, Try.results40, go_sem, hfin]
  exact ⟨N, A, m, d, X, rfl, fo, hX, fb⟩
set_option maxRecDepth 100000 in
theorem drawIsChordal_any (B : Option Addr) (n c : Nat) (bs : List Int) (w : World) (hB : RB w B n bs) (hn : n ≤ 1048576) (hlow : ∀ ad, B = some ad → ad.block < w.heap.size) :
    Calls Try.prog 24 #[.slice B n c] w (DG le6 w) := by
  have hU0 : Up w (w.alloc (.cells #[.int .i64 0, .slice none 0 0] 26)) := by go_grown
  have hR0 := Blk.new w 26 #[.int .i64 0, .slice none 0 0]
  have hs0 : (w.alloc (.cells #[.int .i64 0, .slice none 0 0] 26)).heap.size = w.heap.size + 1 := by simp
  obtain ⟨gr, hgr⟩ : ∃ gr, gr = w.heap.size := ⟨_, rfl⟩
  go_enter Try.func24, Try.ntmps24
  go_wp2_with fail
  refine (l1New_any B n c bs _ (hB.up hU0) hn (fun ad e => by have := hlow ad e; omega)).mono ?_
  rintro e w1 ⟨g, rfl, hC1, hb1, hg1⟩
  have hR1 := hR0.up hb1
  have hU1 := Up.then_ hU0 hb1
  rw [← hgr] at hR1 ⊢
  have hgr' : w.heap.size ≤ gr := by omega
  have hne : gr ≠ g := by omega
  clear hgr
  have hlt := hC1.lt
  go_wp2_with fail
  refine (l4Holey_any hC1).mono ?_
  rintro e w2 ⟨v, rfl, ⟨N, A, m, d, X, rfl, ho, hX⟩, hC2, hg2⟩
  have hR2 := hR1.grown hg2 (fun e => hne (by injection e))
  have hU2 := hU1.grown hg2 hU1.size (fun k hk => by injection hk with hk; omega)
  have ho2 := ho.more (base' := w.heap.size) (by omega)
  have hyr := hR2.two
  have hf0 := hR2.frozen 0
  have hf1 := hR2.frozen 1
  have fo := (ho2.other_store (i := 0) hR2 (by decide) (.int .i64 N)).other_store (i := 1) (hR2.set_ 0 (.int .i64 N)) (by decide) (.slice A m d)
  have fb := (hU2.setCell (p := ⟨gr, 0, none⟩) hgr' (.int .i64 N)).setCell (p := ⟨gr, 1, none⟩) hgr' (.slice A m d)
  have hfin := ((hR2.set_ 0 (.int .i64 N)).set_ 1 (.slice A m d)).two
  clear hR2 ho2 ho hU2 hC2 hR1 hC1 hg2 hU1 hb1 hU0 hR0
  go_wp2
  generalize (w2.setCell ⟨gr, 0, none⟩ (.int .i64 N)).setCell ⟨gr, 1, none⟩ (.slice A m d) = Wf at fo fb hfin ⊢
  refine bodyPost_ret (v := .agg #[.int .i64 N, .slice A m d]) ?_ rfl ?_
  · simp [results, Try.results24, go_sem, hfin]
  exact ⟨N, A, m, d, X, rfl, fo, hX, fb⟩
set_option maxRecDepth 100000 in
theorem drawColorByOrder_any (B : Option Addr) (n c : Nat) (bs : List Int) (w : World) (hB : RB w B n bs) (hn : n ≤ 1048576) (hlow : ∀ ad, B = some ad → ad.block < w.heap.size) :
    Calls Try.prog 19 #[.slice B n c] w (Bothv w) := by
  have hU0 : Up w (w.alloc (.cells #[.int .i64 0, .slice none 0 0] 26)) := by go_grown
  have hR0 := Blk.new w 26 #[.int .i64 0, .slice none 0 0]
  have hs0 : (w.alloc (.cells #[.int .i64 0, .slice none 0 0] 26)).heap.size = w.heap.size + 1 := by simp
  obtain ⟨gr, hgr⟩ : ∃ gr, gr = w.heap.size := ⟨_, rfl⟩
  go_enter Try.func19, Try.ntmps19
  go_wp2_with fail
  refine (l6Both_any B n c bs _ (hB.up hU0) hn (fun ad e => by have := hlow ad e; omega)).mono ?_
  rintro e w1 ⟨N, A, m, d, X, A', d', xs, rfl, hO1, hX, hL1, hl, hb1⟩
  have hR1 := hR0.up hb1
  have hU1 := Up.then_ hU0 hb1
  have hs1 := hb1.size
  have hO2 := hO1.more (base' := w.heap.size) (by omega)
  have hL2 := hL1.more (base' := w.heap.size) (by omega)
  have hU3 : Up w1 (w1.alloc (.cells #[.int .i64 N, .slice A m d] 26)) := by go_grown
  have hy3 := (Blk.new w1 26 #[.int .i64 N, .slice A m d]).two
  have hR3 := hR1.up hU3
  have hO3 := hO2.up hU3
  have hL3 := hL2.up hU3
  have hU4 := Up.then_ hU1 hU3
  rw [← hgr] at hR3 ⊢
  have hgr' : w.heap.size ≤ gr := by omega
  have hne : gr ≠ w1.heap.size := by omega
  clear hgr
  generalize hw3 : w1.alloc (.cells #[.int .i64 N, .slice A m d] 26) = w3 at hy3 hR3 hO3 hL3 hU4
  clear hU3 hR1 hU1 hO1 hL1 hO2 hL2 hb1 hU0 hR0 hs1 hs0
  have hyr := hR3.two
  have hf0 := hR3.frozen 0
  have hf1 := hR3.frozen 1
  have fo := (hO3.other_store (i := 0) hR3 (by decide) (.int .i64 N)).other_store (i := 1) (hR3.set_ 0 (.int .i64 N)) (by decide) (.slice A m d)
  have fl := (hL3.other_store (i := 0) hR3 (by decide) (.int .i64 N)).other_store (i := 1) (hR3.set_ 0 (.int .i64 N)) (by decide) (.slice A m d)
  have fb := (hU4.setCell (p := ⟨gr, 0, none⟩) hgr' (.int .i64 N)).setCell (p := ⟨gr, 1, none⟩) hgr' (.slice A m d)
  have hfin := ((hR3.set_ 0 (.int .i64 N)).set_ 1 (.slice A m d)).two
  clear hR3 hO3 hL3 hU4
  go_wp2
  clear hw3
  generalize (w3.setCell ⟨gr, 0, none⟩ (.int .i64 N)).setCell ⟨gr, 1, none⟩ (.slice A m d) = Wf at fo fl fb hfin ⊢
  refine bodyPost_ret (v := .tuple #[.agg #[.int .i64 N, .slice A m d], .slice A' xs.length d']) ?_ rfl ?_
  · simp [results, Try.results19, go_sem, hfin]
  exact ⟨N, A, m, d, X, A', d', xs, rfl, fo, hX, fl, hl, fb⟩
set_option maxRecDepth 100000 in
theorem drawFillOf_any (B : Option Addr) (n c : Nat) (bs : List Int) (w : World) (hB : RB w B n bs) (hn : n ≤ 1048576) (hlow : ∀ ad, B = some ad → ad.block < w.heap.size) :
    Calls Try.prog 35 #[.slice B n c] w (Bothv w) := by
  have hU0 : Up w (w.alloc (.cells #[.int .i64 0, .slice none 0 0] 26)) := by go_grown
  have hR0 := Blk.new w 26 #[.int .i64 0, .slice none 0 0]
  have hs0 : (w.alloc (.cells #[.int .i64 0, .slice none 0 0] 26)).heap.size = w.heap.size + 1 := by simp
  obtain ⟨gr, hgr⟩ : ∃ gr, gr = w.heap.size := ⟨_, rfl⟩
  go_enter Try.func35, Try.ntmps35
  go_wp2_with fail
  refine (l6Both_any B n c bs _ (hB.up hU0) hn (fun ad e => by have := hlow ad e; omega)).mono ?_
  rintro e w1 ⟨N, A, m, d, X, A', d', xs, rfl, hO1, hX, hL1, hl, hb1⟩
  have hR1 := hR0.up hb1
  have hU1 := Up.then_ hU0 hb1
  have hs1 := hb1.size
  have hO2 := hO1.more (base' := w.heap.size) (by omega)
  have hL2 := hL1.more (base' := w.heap.size) (by omega)
  have hU3 : Up w1 (w1.alloc (.cells #[.int .i64 N, .slice A m d] 26)) := by go_grown
  have hy3 := (Blk.new w1 26 #[.int .i64 N, .slice A m d]).two
  have hR3 := hR1.up hU3
  have hO3 := hO2.up hU3
  have hL3 := hL2.up hU3
  have hU4 := Up.then_ hU1 hU3
  rw [← hgr] at hR3 ⊢
  have hgr' : w.heap.size ≤ gr := by omega
  have hne : gr ≠ w1.heap.size := by omega
  clear hgr
  generalize hw3 : w1.alloc (.cells #[.int .i64 N, .slice A m d] 26) = w3 at hy3 hR3 hO3 hL3 hU4
  clear hU3 hR1 hU1 hO1 hL1 hO2 hL2 hb1 hU0 hR0 hs1 hs0
  have hyr := hR3.two
  have hf0 := hR3.frozen 0
  have hf1 := hR3.frozen 1
  have fo := (hO3.other_store (i := 0) hR3 (by decide) (.int .i64 N)).other_store (i := 1) (hR3.set_ 0 (.int .i64 N)) (by decide) (.slice A m d)
  have fl := (hL3.other_store (i := 0) hR3 (by decide) (.int .i64 N)).other_store (i := 1) (hR3.set_ 0 (.int .i64 N)) (by decide) (.slice A m d)
  have fb := (hU4.setCell (p := ⟨gr, 0, none⟩) hgr' (.int .i64 N)).setCell (p := ⟨gr, 1, none⟩) hgr' (.slice A m d)
  have hfin := ((hR3.set_ 0 (.int .i64 N)).set_ 1 (.slice A m d)).two
  clear hR3 hO3 hL3 hU4
  go_wp2
  clear hw3
  generalize (w3.setCell ⟨gr, 0, none⟩ (.int .i64 N)).setCell ⟨gr, 1, none⟩ (.slice A m d) = Wf at fo fl fb hfin ⊢
  refine bodyPost_ret (v := .tuple #[.agg #[.int .i64 N, .slice A m d], .slice A' xs.length d']) ?_ rfl ?_
  · simp [results, Try.results35, go_sem, hfin]
  exact ⟨N, A, m, d, X, A', d', xs, rfl, fo, hX, fl, hl, fb⟩
set_option maxRecDepth 100000 in
theorem drawIsElimination_any (B : Option Addr) (n c : Nat) (bs : List Int) (w : World) (hB : RB w B n bs) (hn : n ≤ 1048576) (hlow : ∀ ad, B = some ad → ad.block < w.heap.size) :
    Calls Try.prog 38 #[.slice B n c] w (Bothv w) := by
  have hU0 : Up w (w.alloc (.cells #[.int .i64 0, .slice none 0 0] 26)) := by go_grown
  have hR0 := Blk.new w 26 #[.int .i64 0, .slice none 0 0]
  have hs0 : (w.alloc (.cells #[.int .i64 0, .slice none 0 0] 26)).heap.size = w.heap.size + 1 := by simp
  obtain ⟨gr, hgr⟩ : ∃ gr, gr = w.heap.size := ⟨_, rfl⟩
  go_enter Try.func38, Try.ntmps38
  go_wp2_with fail
  refine (l6Both_any B n c bs _ (hB.up hU0) hn (fun ad e => by have := hlow ad e; omega)).mono ?_
  rintro e w1 ⟨N, A, m, d, X, A', d', xs, rfl, hO1, hX, hL1, hl, hb1⟩
  have hR1 := hR0.up hb1
  have hU1 := Up.then_ hU0 hb1
  have hs1 := hb1.size
  have hO2 := hO1.more (base' := w.heap.size) (by omega)
  have hL2 := hL1.more (base' := w.heap.size) (by omega)
  have hU3 : Up w1 (w1.alloc (.cells #[.int .i64 N, .slice A m d] 26)) := by go_grown
  have hy3 := (Blk.new w1 26 #[.int .i64 N, .slice A m d]).two
  have hR3 := hR1.up hU3
  have hO3 := hO2.up hU3
  have hL3 := hL2.up hU3
  have hU4 := Up.then_ hU1 hU3
  rw [← hgr] at hR3 ⊢
  have hgr' : w.heap.size ≤ gr := by omega
  have hne : gr ≠ w1.heap.size := by omega
  clear hgr
  generalize hw3 : w1.alloc (.cells #[.int .i64 N, .slice A m d] 26) = w3 at hy3 hR3 hO3 hL3 hU4
  clear hU3 hR1 hU1 hO1 hL1 hO2 hL2 hb1 hU0 hR0 hs1 hs0
  have hyr := hR3.two
  have hf0 := hR3.frozen 0
  have hf1 := hR3.frozen 1
  have fo := (hO3.other_store (i := 0) hR3 (by decide) (.int .i64 N)).other_store (i := 1) (hR3.set_ 0 (.int .i64 N)) (by decide) (.slice A m d)
  have fl := (hL3.other_store (i := 0) hR3 (by decide) (.int .i64 N)).other_store (i := 1) (hR3.set_ 0 (.int .i64 N)) (by decide) (.slice A m d)
  have fb := (hU4.setCell (p := ⟨gr, 0, none⟩) hgr' (.int .i64 N)).setCell (p := ⟨gr, 1, none⟩) hgr' (.slice A m d)
  have hfin := ((hR3.set_ 0 (.int .i64 N)).set_ 1 (.slice A m d)).two
  clear hR3 hO3 hL3 hU4
  go_wp2
  clear hw3
  generalize (w3.setCell ⟨gr, 0, none⟩ (.int .i64 N)).setCell ⟨gr, 1, none⟩ (.slice A m d) = Wf at fo fl fb hfin ⊢
  refine bodyPost_ret (v := .tuple #[.agg #[.int .i64 N, .slice A m d], .slice A' xs.length d']) ?_ rfl ?_
  · simp [results, Try.results38, go_sem, hfin]
  exact ⟨N, A, m, d, X, A', d', xs, rfl, fo, hX, fl, hl, fb⟩
end Go.Proofs.Ythncdjcmlpiebaa
namespace Go.Proofs.Ythncdjcmlpiebaa
open Go.RowKit
/-- A graph and a number. -/
def GvZ (lo hi : Int) (w : World) (e : Ending) (w' : World) : Prop := ∃ N A m d X z, e = .returned (.tuple #[.agg #[.int .i64 N, .slice A m d], .int .i64 z]) ∧ OwnI w' w.heap.size A m d X ∧ le6 N X ∧ lo ≤ z ∧ z ≤ hi ∧ Below w.heap.size w w'
/-- A graph, a list and a number. -/
def BothZ (lo hi : Int) (w : World) (e : Ending) (w' : World) : Prop := ∃ N A m d X A' d' xs z, e = .returned (.tuple #[.agg #[.int .i64 N, .slice A m d], .slice A' xs.length d', .int .i64 z]) ∧ OwnI w' w.heap.size A m d X ∧ le6 N X ∧ OwnI w' w.heap.size A' xs.length d' xs ∧ xs.length ≤ 127 ∧ lo ≤ z ∧ z ≤ hi ∧ Below w.heap.size w w'
set_option maxRecDepth 100000 in
theorem drawLaterNeighbours_any (B : Option Addr) (n c : Nat) (bs : List Int) (w : World) (hB : RB w B n bs) (hn : n ≤ 1048576) (hlow : ∀ ad, B = some ad → ad.block < w.heap.size) :
    Calls Try.prog 39 #[.slice B n c] w (BothZ (-1) 6 w) := by
  have hU0 : Up w (w.alloc (.cells #[.int .i64 0, .slice none 0 0] 26)) := by go_grown
  have hR0 := Blk.new w 26 #[.int .i64 0, .slice none 0 0]
  have hs0 : (w.alloc (.cells #[.int .i64 0, .slice none 0 0] 26)).heap.size = w.heap.size + 1 := by simp
  obtain ⟨gr, hgr⟩ : ∃ gr, gr = w.heap.size := ⟨_, rfl⟩
  go_enter Try.func39, Try.ntmps39
  go_wp2_with fail
  refine (l6Both_any B n c bs _ (hB.up hU0) hn (fun ad e => by have := hlow ad e; omega)).mono ?_
  rintro e w1 ⟨N, A, m, d, X, A', d', xs, rfl, hO1, hX, hL1, hl, hb1⟩
  have hR1 := hR0.up hb1
  have hU1 := Up.then_ hU0 hb1
  have hs1 := hb1.size
  have hO2 := hO1.more (base' := w.heap.size) (by omega)
  have hL2 := hL1.more (base' := w.heap.size) (by omega)
  have hU3 : Up w1 (w1.alloc (.cells #[.int .i64 N, .slice A m d] 26)) := by go_grown
  have hy3 := (Blk.new w1 26 #[.int .i64 N, .slice A m d]).two
  have hR3 := hR1.up hU3
  have hO3 := hO2.up hU3
  have hL3 := hL2.up hU3
  have hU4 := Up.then_ hU1 hU3
  rw [← hgr] at hR3 ⊢
  have hgr' : w.heap.size ≤ gr := by omega
  have hne : gr ≠ w1.heap.size := by omega
  clear hgr
  generalize hw3 : w1.alloc (.cells #[.int .i64 N, .slice A m d] 26) = w3 at hy3 hR3 hO3 hL3 hU4
  clear hU3 hR1 hU1 hO1 hL1 hO2 hL2 hb1 hU0 hR0 hs1 hs0
  have hyr := hR3.two
  have hf0 := hR3.frozen 0
  have hf1 := hR3.frozen 1
  have fo := (hO3.other_store (i := 0) hR3 (by decide) (.int .i64 N)).other_store (i := 1) (hR3.set_ 0 (.int .i64 N)) (by decide) (.slice A m d)
  have fl := (hL3.other_store (i := 0) hR3 (by decide) (.int .i64 N)).other_store (i := 1) (hR3.set_ 0 (.int .i64 N)) (by decide) (.slice A m d)
  have fb := (hU4.setCell (p := ⟨gr, 0, none⟩) hgr' (.int .i64 N)).setCell (p := ⟨gr, 1, none⟩) hgr' (.slice A m d)
  have hfin := ((hR3.set_ 0 (.int .i64 N)).set_ 1 (.slice A m d)).two
  clear hR3 hO3 hL3 hU4
  obtain ⟨z, hz, hz1, hz2⟩ : ∃ z : Int, ((n % 8 : Nat) : Int) - 1 = z ∧ -1 ≤ z ∧ z ≤ 6 := ⟨_, rfl, by omega, by omega⟩
  go_wp2
  clear hw3
  generalize (w3.setCell ⟨gr, 0, none⟩ (.int .i64 N)).setCell ⟨gr, 1, none⟩ (.slice A m d) = Wf at fo fl fb hfin ⊢
  refine bodyPost_ret (v := .tuple #[.agg #[.int .i64 N, .slice A m d], .slice A' xs.length d', .int .i64 z]) ?_ rfl ?_
  · simp [results, Try.results39, go_sem, hfin, ← hz]
  exact ⟨N, A, m, d, X, A', d', xs, z, rfl, fo, hX, fl, hl, hz1, hz2, fb⟩
set_option maxRecDepth 100000 in
set_option maxHeartbeats 1000000 in
theorem l5Both_any (B : Option Addr) (n c : Nat) (bs : List Int) (w : World) (hB : RB w B n bs) (hn : n ≤ 1048576) (hlow : ∀ ad, B = some ad → ad.block < w.heap.size) :
    Calls Try.prog 84 #[.slice B n c] w (GvZ (-1) 6 w) := by
  have hU0 : Up w (w.alloc (.cells #[.int .i64 0, .slice none 0 0] 26)) := by go_grown
  have hR0 := Blk.new w 26 #[.int .i64 0, .slice none 0 0]
  have hs0 : (w.alloc (.cells #[.int .i64 0, .slice none 0 0] 26)).heap.size = w.heap.size + 1 := by simp
  obtain ⟨gr, hgr⟩ : ∃ gr, gr = w.heap.size := ⟨_, rfl⟩
  go_enter Try.func84, Try.ntmps84
  go_wp2_with fail
  refine (l1New_any B n c bs _ (hB.up hU0) hn (fun ad e => by have := hlow ad e; omega)).mono ?_
  rintro e w1 ⟨g, rfl, hC1, hb1, hg1⟩
  have hR1 := hR0.up hb1
  have hU1 := Up.then_ hU0 hb1
  rw [← hgr] at hR1 ⊢
  have hgr' : w.heap.size ≤ gr := by omega
  have hne : gr ≠ g := by omega
  have hlg : w.heap.size ≤ g := by omega
  clear hgr hR0 hs0 hb1 hg1 hU0
  go_wp2_with fail
  refine (l2Any_any hC1).mono ?_
  rintro e w2 ⟨v, rfl, ⟨N, A, m, d, X, rfl, ho, hX⟩, hC2, hg2⟩
  have hlt := hC1.lt
  have hs2 := hg2.size
  have hR2 := hR1.grown hg2 (fun e => hne (by injection e))
  have hU2 := hU1.grown hg2 hU1.size (fun k hk => by injection hk with hk; omega)
  have hU3 : Up w2 (w2.alloc (.cells #[.int .i64 N, .slice A m d] 26)) := by go_grown
  have hltr := hR2.lt
  have I : DB w g B n c bs gr w2.heap.size N A m d X (w2.alloc (.cells #[.int .i64 N, .slice A m d] 26)) :=
    ⟨hC2.up hU3, hR2.up hU3, Blk.new _ _ _, (ho.more (by omega)).up hU3, Up.then_ hU2 hU3, hgr', hlg, hne, by omega, by omega⟩
  clear hR1 hU1 hC1 hR2 hU2 hU3 hC2 hg2 ho hltr
  obtain ⟨gb, hgb⟩ : ∃ gb, gb = w2.heap.size := ⟨_, rfl⟩
  rw [← hgb] at I
  have hy := I.box.two
  have hlb := I.box.lt
  have hgs := I.cur.lt
  have hyr := I.res.two
  have hf0 := I.res.frozen 0
  have hf1 := I.res.frozen 1
  have hne2 := I.ne2
  go_wp2_with fail
  rw [← hgb]
  generalize w2.alloc (.cells #[.int .i64 N, .slice A m d] 26) = w3 at I hy hlb hgs hyr hf0 hf1 ⊢
  clear hgb
  go_region_with (refine (l1Below_any (I.up (Below.drew (Up.refl _))).cur 8 (by omega) (by omega)).mono ?_; rintro e w5 ⟨v, rfl, ⟨x, rfl, hx⟩, hC5, hg5⟩; have I8 := (I.up (Below.drew (Up.refl _))).dr hC5 hg5; have hy8 := I8.box.two; have hyr8 := I8.res.two; have hf80 := I8.res.frozen 0; have hf81 := I8.res.frozen 1)
  all_goals
    clear hy hyr hf0 hf1
    obtain ⟨f1, f2, f3, f4⟩ := I8.fin
    have hfin := f3.two
    clear I8 I f3 f4 hyr8 hf80 hf81 hy8
    go_wp2
    generalize (w5.setCell ⟨gr, 0, none⟩ (.int .i64 N)).setCell ⟨gr, 1, none⟩ (.slice A m d) = Wf at f1 f2 hfin ⊢
    refine bodyPost_ret (v := .tuple #[.agg #[.int .i64 N, .slice A m d], .int .i64 ((x : Int) - 1)]) ?_ rfl ?_
    · have hwr : IntKind.i64.wrap ((x : Int) - 1) = (x : Int) - 1 := by rw [IntKind.wrap_i64]; omega
      simp [results, Try.results84, go_sem, hfin, hwr]
    exact ⟨N, A, m, d, X, _, rfl, f1, hX, by omega, by omega, f2⟩
set_option maxRecDepth 100000 in
theorem drawIsLexElimination_any (B : Option Addr) (n c : Nat) (bs : List Int) (w : World) (hB : RB w B n bs) (hn : n ≤ 1048576) (hlow : ∀ ad, B = some ad → ad.block < w.heap.size) :
    Calls Try.prog 41 #[.slice B n c] w (GvZ (-1) 6 w) := by
  have hU0 : Up w (w.alloc (.cells #[.int .i64 0, .slice none 0 0] 26)) := by go_grown
  have hR0 := Blk.new w 26 #[.int .i64 0, .slice none 0 0]
  have hs0 : (w.alloc (.cells #[.int .i64 0, .slice none 0 0] 26)).heap.size = w.heap.size + 1 := by simp
  obtain ⟨gr, hgr⟩ : ∃ gr, gr = w.heap.size := ⟨_, rfl⟩
  go_enter Try.func41, Try.ntmps41
  go_wp2_with fail
  refine (l5Both_any B n c bs _ (hB.up hU0) hn (fun ad e => by have := hlow ad e; omega)).mono ?_
  rintro e w1 ⟨N, A, m, d, X, z, rfl, hO1, hX, hz1, hz2, hb1⟩
  have hR1 := hR0.up hb1
  have hU1 := Up.then_ hU0 hb1
  have hs1 := hb1.size
  have hO2 := hO1.more (base' := w.heap.size) (by omega)
  have hU3 : Up w1 (w1.alloc (.cells #[.int .i64 N, .slice A m d] 26)) := by go_grown
  have hy3 := (Blk.new w1 26 #[.int .i64 N, .slice A m d]).two
  have hR3 := hR1.up hU3
  have hO3 := hO2.up hU3
  have hU4 := Up.then_ hU1 hU3
  rw [← hgr] at hR3 ⊢
  have hgr' : w.heap.size ≤ gr := by omega
  have hne : gr ≠ w1.heap.size := by omega
  clear hgr
  generalize hw3 : w1.alloc (.cells #[.int .i64 N, .slice A m d] 26) = w3 at hy3 hR3 hO3 hU4
  clear hU3 hR1 hU1 hO1 hO2 hb1 hU0 hR0 hs1 hs0
  have hyr := hR3.two
  have hf0 := hR3.frozen 0
  have hf1 := hR3.frozen 1
  have fo := (hO3.other_store (i := 0) hR3 (by decide) (.int .i64 N)).other_store (i := 1) (hR3.set_ 0 (.int .i64 N)) (by decide) (.slice A m d)
  have fb := (hU4.setCell (p := ⟨gr, 0, none⟩) hgr' (.int .i64 N)).setCell (p := ⟨gr, 1, none⟩) hgr' (.slice A m d)
  have hfin := ((hR3.set_ 0 (.int .i64 N)).set_ 1 (.slice A m d)).two
  clear hR3 hO3 hU4
  go_wp2
  clear hw3
  generalize (w3.setCell ⟨gr, 0, none⟩ (.int .i64 N)).setCell ⟨gr, 1, none⟩ (.slice A m d) = Wf at fo fb hfin ⊢
  refine bodyPost_ret (v := .tuple #[.agg #[.int .i64 N, .slice A m d], .int .i64 z]) ?_ rfl ?_
  · simp [results, Try.results41, go_sem, hfin]
  exact ⟨N, A, m, d, X, z, rfl, fo, hX, hz1, hz2, fb⟩
theorem colOf_len7 {N : Int} {X l : List Int} : (colOf N X l).length ≤ 127 := by
  rcases isOrder_cases N X l with hg | ⟨hg, n, Q, o, rfl, rfl, rfl, h, ho, hl⟩
  · rw [colOf_no hg]; simp
  · rw [colOf_ok hg, hl, ints_len, colK_len, hl]
    have := h.le
    omega
set_option maxRecDepth 100000 in
set_option maxHeartbeats 2000000 in
theorem drawIsColoring_any (B : Option Addr) (n c : Nat) (bs : List Int) (w : World) (hB : RB w B n bs) (hn : n ≤ 1048576) (hlow : ∀ ad, B = some ad → ad.block < w.heap.size) :
    Calls Try.prog 21 #[.slice B n c] w (Bothv w) := by
  have hU0 : Up w (w.alloc (.cells #[.int .i64 0, .slice none 0 0] 26)) := by go_grown
  have hR0 := Blk.new w 26 #[.int .i64 0, .slice none 0 0]
  have hs0 : (w.alloc (.cells #[.int .i64 0, .slice none 0 0] 26)).heap.size = w.heap.size + 1 := by simp
  obtain ⟨gr, hgr⟩ : ∃ gr, gr = w.heap.size := ⟨_, rfl⟩
  go_enter Try.func21, Try.ntmps21
  go_wp2_with fail
  refine (l1New_any B n c bs _ (hB.up hU0) hn (fun ad e => by have := hlow ad e; omega)).mono ?_
  rintro e w1 ⟨g, rfl, hC1, hb1, hg1⟩
  have hR1 := hR0.up hb1
  have hU1 := Up.then_ hU0 hb1
  rw [← hgr] at hR1 ⊢
  have hgr' : w.heap.size ≤ gr := by omega
  have hne : gr ≠ g := by omega
  have hlg : w.heap.size ≤ g := by omega
  clear hgr hR0 hs0 hb1 hg1 hU0
  go_wp2_with fail
  refine (l6Both_any B n c bs _ (hB.up hU1) hn (fun ad e => by have := hlow ad e; have := hU1.size; omega)).mono ?_
  rintro e w2 ⟨N, A, m, d, X, A', d', xs, rfl, ho, hX, hL, hl, hb2⟩
  have hlt := hC1.lt
  have hs2 := hb2.size
  have hU3 : Up w2 (w2.alloc (.cells #[.int .i64 N, .slice A m d] 26)) := by go_grown
  have hltr := hR1.lt
  have I : DB w g B n c bs gr w2.heap.size N A m d X (w2.alloc (.cells #[.int .i64 N, .slice A m d] 26)) :=
    ⟨(hC1.up hb2).up hU3, (hR1.up hb2).up hU3, Blk.new _ _ _, (ho.more (by omega)).up hU3, Up.then_ (Up.then_ hU1 hb2) hU3, hgr', hlg, hne, by omega, by omega⟩
  have hL3 := (hL.more (base' := g + 1) (by omega)).up hU3
  clear hR1 hU1 hC1 hU3 hb2 ho hL hltr hs2 hlt
  obtain ⟨gb, hgb⟩ : ∃ gb, gb = w2.heap.size := ⟨_, rfl⟩
  rw [← hgb] at I
  go_wp2_with fail
  rw [← hgb]
  generalize w2.alloc (.cells #[.int .i64 N, .slice A m d] 26) = w3 at I hL3 ⊢
  clear hgb
  have hmX : X.length = m := I.own.len
  have hX6 : m ≤ 6 := by rw [← hmX]; exact hX
  refine (specColorByOrder_any N A A' m d xs.length d' X xs w3 I.own.ri hL3.ri (by omega) (by omega)).mono ?_
  rintro e w4 ⟨A1, c1, rfl, hO1, hb4⟩
  have hcl := colOf_len7 (N := N) (X := X) (l := xs)
  obtain ⟨ys, hys⟩ : ∃ ys, ys = colOf N X xs := ⟨_, rfl⟩
  rw [← hys] at hO1 hcl ⊢
  clear hys hmX
  have hOB := fun k hk => (hO1.block k hk).1
  have hAB := fun k hk => (I.own.block k hk).2
  replace hO1 := hO1.more (base' := g + 1) (by have := I.cur.lt; omega)
  replace I := I.up hb4
  clear hb4 hL3
  have fin : ∀ (ys : List Int) (wr : World), ys.length ≤ 127 → DB w g B n c bs gr gb N A m d X wr → OwnI wr (g + 1) A1 ys.length c1 ys →
      Bothv w (.returned (.tuple #[.agg #[.int .i64 N, .slice A m d], .slice A1 ys.length c1])) ((wr.setCell ⟨gr, 0, none⟩ (.int .i64 N)).setCell ⟨gr, 1, none⟩ (.slice A m d)) ∧
      (((wr.setCell ⟨gr, 0, none⟩ (.int .i64 N)).setCell ⟨gr, 1, none⟩ (.slice A m d)).cell? ⟨gr, 0, none⟩ = some (.int .i64 N) ∧ ((wr.setCell ⟨gr, 0, none⟩ (.int .i64 N)).setCell ⟨gr, 1, none⟩ (.slice A m d)).cell? ⟨gr, 1, none⟩ = some (.slice A m d)) := fun ys wr hy I hO => by
    obtain ⟨f1, f2, f3, f4⟩ := I.fin
    exact ⟨⟨N, A, m, d, X, A1, c1, ys, rfl, f1, hX, f4 _ _ _ _ (hO.more (by omega)), hy, f2⟩, f3.two⟩
  by_cases h0 : ys.length = 0
  · obtain rfl : ys = [] := List.eq_nil_of_length_eq_zero h0
    have hy := I.box.two
    have hyr := I.res.two
    have hf0 := I.res.frozen 0
    have hf1 := I.res.frozen 1
    have hne2 := I.ne2
    have fin' := fin [] w4 hcl I hO1
    clear fin I hO1 h0
    go_wp2
    generalize (w4.setCell ⟨gr, 0, none⟩ (.int .i64 N)).setCell ⟨gr, 1, none⟩ (.slice A m d) = Wf at fin' ⊢
    obtain ⟨f1, hfin⟩ := fin'
    refine bodyPost_ret (v := .tuple #[.agg #[.int .i64 N, .slice A m d], .slice A1 0 c1]) ?_ rfl f1
    simp [results, Try.results21, go_sem, hfin]
  · have hdd : decide ((0 : Int) < (ys.length : Int)) = true := decide_eq_true (by omega)
    go_wp2_with fail
    refine (l1Once_any I.cur 3 (by omega) (by omega)).mono ?_
    rintro e w5 ⟨v, rfl, ⟨b, rfl⟩, hC5, hg5⟩
    replace I := I.dr hC5 hg5
    replace hO1 := hO1.far_gb hg5 (by omega)
    clear hC5 hg5
    cases b
    · have hy := I.box.two
      have hyr := I.res.two
      have hf0 := I.res.frozen 0
      have hf1 := I.res.frozen 1
      have hne2 := I.ne2
      have fin' := fin ys w5 hcl I hO1
      clear fin I hO1 h0
      go_wp2
      generalize (w5.setCell ⟨gr, 0, none⟩ (.int .i64 N)).setCell ⟨gr, 1, none⟩ (.slice A m d) = Wf at fin' ⊢
      obtain ⟨f1, hfin⟩ := fin'
      refine bodyPost_ret (v := .tuple #[.agg #[.int .i64 N, .slice A m d], .slice A1 ys.length c1]) ?_ rfl f1
      simp [results, Try.results21, go_sem, hfin]
    · obtain ⟨a1, rfl⟩ := hO1.form (by omega)
      go_wp2_with fail
      refine (l1Below_any I.cur ys.length (by omega) (by omega)).mono ?_
      rintro e w6 ⟨v, rfl, ⟨x, rfl, hx⟩, hC6, hg6⟩
      replace I := I.dr hC6 hg6
      replace hO1 := hO1.far_gb hg6 (by omega)
      clear hC6 hg6
      have hU7 : Up w6 (w6.alloc (.cells #[.int .i64 (-1), .int .i64 0, .int .i64 1, .int .i64 6, .int .i64 7] 3)) := by go_grown
      have hX7 : RI (w6.alloc (.cells #[.int .i64 (-1), .int .i64 0, .int .i64 1, .int .i64 6, .int .i64 7] 3)) (some ⟨w6.heap.size, 0, none⟩) 5 [-1, 0, 1, 6, 7] := Blk.ri (Blk.new w6 3 _) rfl
      have hgs := I.cur.lt
      go_wp2_with fail
      refine (l1PickInt_any (I.up hU7).cur hX7 (fun ad e => by injection e with e; subst e; show w6.heap.size ≠ g; omega) (by omega) (by omega)).mono ?_
      rintro e w7 ⟨v, rfl, ⟨j, hj, rfl⟩, hC7, hg7⟩
      obtain ⟨z, hz⟩ : ∃ z, z = ([-1, 0, 1, 6, 7] : List Int).getD j 0 := ⟨_, rfl⟩
      rw [← hz]
      clear hz hj
      replace I := (I.up hU7).dr hC7 hg7
      replace hO1 := (hO1.up hU7).far_gb hg7 (by omega)
      clear hC7 hg7 hU7 hX7
      have hxc : ∃ y, w7.cell? ⟨a1, x, none⟩ = some (.int .i64 y) := by
        obtain ⟨ad, e, _, hc⟩ := hO1.ri.at_ hx
        injection e with e
        subst e
        have e2 : (⟨a1, 0, none⟩ : Addr).add x = ⟨a1, x, none⟩ := by unfold Addr.add; split <;> simp_all
        rw [e2] at hc
        exact ⟨_, hc⟩
      obtain ⟨y, hxc⟩ := hxc
      have hfa := hO1.frz_ x
      have hput := hO1.put x z
      have hag : g + 1 ≤ a1 := (hO1.block a1 rfl).1
      have hab : gb ≠ a1 := fun e => own_blk_ne hO1 I.box (by decide) (by rw [e]; rfl)
      have har : gr ≠ a1 := fun e => own_blk_ne hO1 I.res (by decide) (by rw [e]; rfl)
      have hIs : DB w g B n c bs gr gb N A m d X (w7.setCell ⟨a1, x, none⟩ (.int .i64 z)) :=
        ⟨I.cur.set (p := ⟨a1, x, none⟩) (by show g < a1; omega) _, I.res.far (p := ⟨a1, x, none⟩) har _, I.box.far (p := ⟨a1, x, none⟩) hab _,
          I.own.kept hput.2 (by
            rcases hv : (Value.slice A m d).ownBlock with _ | k
            · exact .inl rfl
            · refine .inr (fun e => ?_)
              injection e with e
              have h1 := hAB k hv
              have h2 := hOB a1 rfl
              omega), I.bel.setCell (p := ⟨a1, x, none⟩) (by show w.heap.size ≤ a1; omega) _, I.hgr, I.low, I.ne, I.hgb, I.ne2⟩
      have fin' := fin (ys.set x z) _ (by rw [List.length_set]; exact hcl) hIs (hput.1.cast (by rw [List.length_set]) rfl)
      rw [List.length_set] at fin'
      have hy := hIs.box.two
      have hyr := hIs.res.two
      have hf0 := hIs.res.frozen 0
      have hf1 := hIs.res.frozen 1
      have hne2 := I.ne2
      clear hIs I hO1 hput fin
      go_wp2
      generalize ((w7.setCell ⟨a1, x, none⟩ (.int .i64 z)).setCell ⟨gr, 0, none⟩ (.int .i64 N)).setCell ⟨gr, 1, none⟩ (.slice A m d) = Wf at fin' ⊢
      obtain ⟨f1, hfin⟩ := fin'
      refine bodyPost_ret (v := .tuple #[.agg #[.int .i64 N, .slice A m d], .slice (some ⟨a1, 0, none⟩) ys.length c1]) ?_ rfl f1
      simp [results, Try.results21, go_sem, hfin]
end Go.Proofs.Ythncdjcmlpiebaa
