/- Draws: intervals, and a number beside. -/
import Derived.Test.YthncdjcmlpiebaaGreatDoorDr9m
namespace Go.Proofs.YthncdjcmlpiebaaGreatDoor
open Go.RowKit
/-- Intervals of the call's own. -/
def DM (w : World) (e : Ending) (w' : World) : Prop := ∃ A na ca C nc cc L R, e = .returned (.agg #[.slice A na ca, .slice C nc cc]) ∧ RF w' w.heap.size A na L ∧ RF w' w.heap.size C nc R ∧ na ≤ 6 ∧ nc ≤ 6 ∧ Below w.heap.size w w'
def DMz (w : World) (e : Ending) (w' : World) : Prop := ∃ A na ca C nc cc L R z, e = .returned (.tuple #[.agg #[.slice A na ca, .slice C nc cc], .int .i64 z]) ∧ RF w' w.heap.size A na L ∧ RF w' w.heap.size C nc R ∧ na ≤ 6 ∧ nc ≤ 6 ∧ Below w.heap.size w w'
/-- Drawn intervals in a box, the cursor and the result beside. -/
structure DBM (w : World) (g : Nat) (B : Option Addr) (n c : Nat) (bs : List Int) (gr gb : Nat) (A : Option Addr) (na ca : Nat) (L : List Int) (C : Option Addr) (nc cc : Nat) (R : List Int) (wr : World) : Prop where
  cur : Cur wr g B n c bs
  res : Blk wr gr 26 #[.slice none 0 0, .slice none 0 0]
  box : Blk wr gb 26 #[.slice A na ca, .slice C nc cc]
  a : RF wr (g + 1) A na L
  b : RF wr (g + 1) C nc R
  bel : Below w.heap.size w wr
  hgr : w.heap.size ≤ gr
  low : w.heap.size ≤ g
  lt : gr < g
  hgb : g < gb
section
variable {w wr w' : World} {g n c gr gb na ca nc cc : Nat} {B A C : Option Addr} {bs L R : List Int}
set_option maxRecDepth 100000 in
theorem DBM.up (I : DBM w g B n c bs gr gb A na ca L C nc cc R wr) (hb : Up wr w') : DBM w g B n c bs gr gb A na ca L C nc cc R w' :=
  ⟨I.cur.up hb, I.res.up hb, I.box.up hb, I.a.up hb, I.b.up hb, Up.then_ I.bel hb, I.hgr, I.low, I.lt, I.hgb⟩
set_option maxRecDepth 100000 in
theorem DBM.dr (I : DBM w g B n c bs gr gb A na ca L C nc cc R wr) (hC : Cur w' g B n c bs) (hg : wr.grownBy w' (some g)) : DBM w g B n c bs gr gb A na ca L C nc cc R w' :=
  ⟨hC, I.res.grown hg (fun e => by injection e with e; have := I.lt; omega), I.box.grown hg (fun e => by injection e with e; have := I.hgb; omega), I.a.gb hg (by omega), I.b.gb hg (by omega), I.bel.grown hg I.bel.size (fun k hk => by injection hk with hk; have := I.low; omega), I.hgr, I.low, I.lt, I.hgb⟩
set_option maxRecDepth 100000 in
theorem DBM.fin (I : DBM w g B n c bs gr gb A na ca L C nc cc R wr) : RF ((wr.setCell ⟨gr, 0, none⟩ (.slice A na ca)).setCell ⟨gr, 1, none⟩ (.slice C nc cc)) w.heap.size A na L ∧ RF ((wr.setCell ⟨gr, 0, none⟩ (.slice A na ca)).setCell ⟨gr, 1, none⟩ (.slice C nc cc)) w.heap.size C nc R ∧ Below w.heap.size w ((wr.setCell ⟨gr, 0, none⟩ (.slice A na ca)).setCell ⟨gr, 1, none⟩ (.slice C nc cc)) ∧
    (((wr.setCell ⟨gr, 0, none⟩ (.slice A na ca)).setCell ⟨gr, 1, none⟩ (.slice C nc cc)).cell? ⟨gr, 0, none⟩ = some (.slice A na ca) ∧ ((wr.setCell ⟨gr, 0, none⟩ (.slice A na ca)).setCell ⟨gr, 1, none⟩ (.slice C nc cc)).cell? ⟨gr, 1, none⟩ = some (.slice C nc cc)) := by
  have hlt := I.lt
  have hlow := I.low
  exact ⟨((I.a.set (p := ⟨gr, 0, none⟩) (by show gr < g + 1; omega) _).set (p := ⟨gr, 1, none⟩) (by show gr < g + 1; omega) _).more (by omega), ((I.b.set (p := ⟨gr, 0, none⟩) (by show gr < g + 1; omega) _).set (p := ⟨gr, 1, none⟩) (by show gr < g + 1; omega) _).more (by omega),
    (I.bel.setCell (p := ⟨gr, 0, none⟩) I.hgr _).setCell (p := ⟨gr, 1, none⟩) I.hgr _, ((I.res.set_ 0 _).set_ 1 _).two⟩
end
set_option maxRecDepth 100000 in
set_option maxHeartbeats 2000000 in
theorem drawGraphOfIntervals_any (B : Option Addr) (n c : Nat) (bs : List Int) (w : World) (hB : RB w B n bs) (hn : n ≤ 1048576) (hlow : ∀ ad, B = some ad → ad.block < w.heap.size) :
    Calls Tryz.prog 6 #[.slice B n c] w (DM w) := by
  have hU0 : Up w (w.alloc (.cells #[.slice none 0 0, .slice none 0 0] 26)) := by go_grown
  have hR0 := Blk.new w 26 #[.slice none 0 0, .slice none 0 0]
  have hs0 : (w.alloc (.cells #[.slice none 0 0, .slice none 0 0] 26)).heap.size = w.heap.size + 1 := by simp
  obtain ⟨gr, hgr⟩ : ∃ gr, gr = w.heap.size := ⟨_, rfl⟩
  go_enter Tryz.func6, Tryz.ntmps6
  go_wp2_with fail
  refine (l1New_any B n c bs _ (hB.up hU0) hn (fun ad e => by have := hlow ad e; omega)).mono ?_
  rintro e w1 ⟨g, rfl, hC1, hb1, hg1⟩
  have hR1 := hR0.up hb1
  have hU1 := Up.then_ hU0 hb1
  rw [← hgr] at hR1 ⊢
  have hgr' : w.heap.size ≤ gr := by omega
  have hltg : gr < g := by omega
  have hlg : w.heap.size ≤ g := by omega
  clear hgr
  have hlt := hC1.lt
  go_wp2_with fail
  refine (l9Model_any hC1).mono ?_
  rintro e w2 ⟨v, rfl, ⟨A, na, ca, C, nc, cc, L, R, rfl, ha, hb, hna, hnc⟩, hC2, hg2⟩
  have hR2 := hR1.grown hg2 (fun e => by injection e with e; omega)
  have hU2 := hU1.grown hg2 hU1.size (fun k hk => by injection hk with hk; omega)
  have hr1 := hR1.lt
  have hyr := hR2.two
  have hf0 := hR2.frozen 0
  have hf1 := hR2.frozen 1
  have fa := ((ha.set (p := ⟨gr, 0, none⟩) hr1 (.slice A na ca)).set (p := ⟨gr, 1, none⟩) hr1 (.slice C nc cc)).more (base' := w.heap.size) (by omega)
  have fc := ((hb.set (p := ⟨gr, 0, none⟩) hr1 (.slice A na ca)).set (p := ⟨gr, 1, none⟩) hr1 (.slice C nc cc)).more (base' := w.heap.size) (by omega)
  have fb := (hU2.setCell (p := ⟨gr, 0, none⟩) hgr' (.slice A na ca)).setCell (p := ⟨gr, 1, none⟩) hgr' (.slice C nc cc)
  have hfin := ((hR2.set_ 0 (.slice A na ca)).set_ 1 (.slice C nc cc)).two
  clear hR2 ha hb hU2 hC2 hR1 hC1 hg2 hU1 hb1 hU0 hR0
  go_wp2
  generalize (w2.setCell ⟨gr, 0, none⟩ (.slice A na ca)).setCell ⟨gr, 1, none⟩ (.slice C nc cc) = Wf at fa fc fb hfin ⊢
  refine bodyPost_ret (v := .agg #[.slice A na ca, .slice C nc cc]) ?_ rfl ?_
  · simp [results, Tryz.results6, go_sem, hfin]
  exact ⟨A, na, ca, C, nc, cc, L, R, rfl, fa, fc, hna, hnc, fb⟩
set_option maxRecDepth 100000 in
set_option maxHeartbeats 2000000 in
theorem drawIsProperModel_any (B : Option Addr) (n c : Nat) (bs : List Int) (w : World) (hB : RB w B n bs) (hn : n ≤ 1048576) (hlow : ∀ ad, B = some ad → ad.block < w.heap.size) :
    Calls Tryz.prog 26 #[.slice B n c] w (DM w) := by
  have hU0 : Up w (w.alloc (.cells #[.slice none 0 0, .slice none 0 0] 26)) := by go_grown
  have hR0 := Blk.new w 26 #[.slice none 0 0, .slice none 0 0]
  have hs0 : (w.alloc (.cells #[.slice none 0 0, .slice none 0 0] 26)).heap.size = w.heap.size + 1 := by simp
  obtain ⟨gr, hgr⟩ : ∃ gr, gr = w.heap.size := ⟨_, rfl⟩
  go_enter Tryz.func26, Tryz.ntmps26
  go_wp2_with fail
  refine (l1New_any B n c bs _ (hB.up hU0) hn (fun ad e => by have := hlow ad e; omega)).mono ?_
  rintro e w1 ⟨g, rfl, hC1, hb1, hg1⟩
  have hR1 := hR0.up hb1
  have hU1 := Up.then_ hU0 hb1
  rw [← hgr] at hR1 ⊢
  have hgr' : w.heap.size ≤ gr := by omega
  have hltg : gr < g := by omega
  have hlg : w.heap.size ≤ g := by omega
  clear hgr
  have hlt := hC1.lt
  go_wp2_with fail
  refine (l9Model_any hC1).mono ?_
  rintro e w2 ⟨v, rfl, ⟨A, na, ca, C, nc, cc, L, R, rfl, ha, hb, hna, hnc⟩, hC2, hg2⟩
  have hR2 := hR1.grown hg2 (fun e => by injection e with e; omega)
  have hU2 := hU1.grown hg2 hU1.size (fun k hk => by injection hk with hk; omega)
  have hr1 := hR1.lt
  have hyr := hR2.two
  have hf0 := hR2.frozen 0
  have hf1 := hR2.frozen 1
  have fa := ((ha.set (p := ⟨gr, 0, none⟩) hr1 (.slice A na ca)).set (p := ⟨gr, 1, none⟩) hr1 (.slice C nc cc)).more (base' := w.heap.size) (by omega)
  have fc := ((hb.set (p := ⟨gr, 0, none⟩) hr1 (.slice A na ca)).set (p := ⟨gr, 1, none⟩) hr1 (.slice C nc cc)).more (base' := w.heap.size) (by omega)
  have fb := (hU2.setCell (p := ⟨gr, 0, none⟩) hgr' (.slice A na ca)).setCell (p := ⟨gr, 1, none⟩) hgr' (.slice C nc cc)
  have hfin := ((hR2.set_ 0 (.slice A na ca)).set_ 1 (.slice C nc cc)).two
  clear hR2 ha hb hU2 hC2 hR1 hC1 hg2 hU1 hb1 hU0 hR0
  go_wp2
  generalize (w2.setCell ⟨gr, 0, none⟩ (.slice A na ca)).setCell ⟨gr, 1, none⟩ (.slice C nc cc) = Wf at fa fc fb hfin ⊢
  refine bodyPost_ret (v := .agg #[.slice A na ca, .slice C nc cc]) ?_ rfl ?_
  · simp [results, Tryz.results26, go_sem, hfin]
  exact ⟨A, na, ca, C, nc, cc, L, R, rfl, fa, fc, hna, hnc, fb⟩
set_option maxRecDepth 100000 in
set_option maxHeartbeats 2000000 in
theorem drawIsUnitModel_any (B : Option Addr) (n c : Nat) (bs : List Int) (w : World) (hB : RB w B n bs) (hn : n ≤ 1048576) (hlow : ∀ ad, B = some ad → ad.block < w.heap.size) :
    Calls Tryz.prog 25 #[.slice B n c] w (DMz w) := by
  have hU0 : Up w (w.alloc (.cells #[.slice none 0 0, .slice none 0 0] 26)) := by go_grown
  have hR0 := Blk.new w 26 #[.slice none 0 0, .slice none 0 0]
  have hs0 : (w.alloc (.cells #[.slice none 0 0, .slice none 0 0] 26)).heap.size = w.heap.size + 1 := by simp
  obtain ⟨gr, hgr⟩ : ∃ gr, gr = w.heap.size := ⟨_, rfl⟩
  go_enter Tryz.func25, Tryz.ntmps25
  go_wp2_with fail
  refine (l1New_any B n c bs _ (hB.up hU0) hn (fun ad e => by have := hlow ad e; omega)).mono ?_
  rintro e w1 ⟨g, rfl, hC1, hb1, hg1⟩
  have hR1 := hR0.up hb1
  have hU1 := Up.then_ hU0 hb1
  rw [← hgr] at hR1 ⊢
  have hgr' : w.heap.size ≤ gr := by omega
  have hltg : gr < g := by omega
  have hlg : w.heap.size ≤ g := by omega
  clear hgr
  have hlt := hC1.lt
  go_wp2_with fail
  refine (l9Model_any hC1).mono ?_
  rintro e w2 ⟨v, rfl, ⟨A, na, ca, C, nc, cc, L, R, rfl, ha, hb, hna, hnc⟩, hC2, hg2⟩
  have hR2 := hR1.grown hg2 (fun e => by injection e with e; omega)
  have hU2 := hU1.grown hg2 hU1.size (fun k hk => by injection hk with hk; omega)
  have hU3 : Up w2 (w2.alloc (.cells #[.slice A na ca, .slice C nc cc] 26)) := by go_grown
  have hgs2 := hC2.lt
  have I : DBM w g B n c bs gr w2.heap.size A na ca L C nc cc R (w2.alloc (.cells #[.slice A na ca, .slice C nc cc] 26)) :=
    ⟨hC2.up hU3, hR2.up hU3, Blk.new _ _ _, (ha.more (by omega)).up hU3, (hb.more (by omega)).up hU3, Up.then_ hU2 hU3, hgr', hlg, hltg, hgs2⟩
  clear hR1 hU1 hC1 hR2 hU2 hU3 hC2 hg2 ha hb hR0 hU0 hb1 hs0 hgs2 hg1
  obtain ⟨gb, hgb⟩ : ∃ gb, gb = w2.heap.size := ⟨_, rfl⟩
  rw [← hgb] at I
  go_wp2_with fail
  rw [← hgb]
  generalize w2.alloc (.cells #[.slice A na ca, .slice C nc cc] 26) = w3 at I ⊢
  clear hgb
  have hy := I.box.two
  have hlb := I.box.lt
  have hgs := I.cur.lt
  have hyr := I.res.two
  have hf0 := I.res.frozen 0
  have hf1 := I.res.frozen 1
  have hU4 : Up w3 (w3.alloc (.cells #[.int .i64 3, .int .i64 3, .int .i64 0, .int .i64 1] 3)).drew := Below.drew (by go_grown)
  have hX4 : RI (w3.alloc (.cells #[.int .i64 3, .int .i64 3, .int .i64 0, .int .i64 1] 3)).drew (some ⟨w3.heap.size, 0, none⟩) 4 [3, 3, 0, 1] := RI.drew (Blk.ri (Blk.new w3 3 _) rfl)
  go_region_with (refine (l1PickInt_any (I.up hU4).cur hX4 (fun ad e => by injection e with e; subst e; show w3.heap.size ≠ g; omega) (by omega) (by omega)).mono ?_; rintro e w5 ⟨v, rfl, ⟨j, hj, rfl⟩, hC5, hg5⟩; obtain ⟨z, hz⟩ : ∃ z, z = ([3, 3, 0, 1] : List Int).getD j 0 := ⟨_, rfl⟩; rw [← hz]; clear hz hj; have I5 := (I.up hU4).dr hC5 hg5; have hy5 := I5.box.two; have hyr5 := I5.res.two; have hf50 := I5.res.frozen 0; have hf51 := I5.res.frozen 1)
  all_goals
    obtain ⟨f1, f2, f3, hfin⟩ := I5.fin
    clear I5 I hC5 hg5 hy5 hyr5 hf50 hf51 hy hyr hf0 hf1
    go_wp2
    generalize (w5.setCell ⟨gr, 0, none⟩ (.slice A na ca)).setCell ⟨gr, 1, none⟩ (.slice C nc cc) = Wf at f1 f2 f3 hfin ⊢
    refine bodyPost_ret (v := .tuple #[.agg #[.slice A na ca, .slice C nc cc], .int .i64 z]) ?_ rfl ?_
    · simp [results, Tryz.results25, go_sem, hfin]
    exact ⟨A, na, ca, C, nc, cc, L, R, z, rfl, f1, f2, hna, hnc, f3⟩
set_option maxRecDepth 100000 in
set_option maxHeartbeats 2000000 in
theorem drawPointsCovered_any (B : Option Addr) (n c : Nat) (bs : List Int) (w : World) (hB : RB w B n bs) (hn : n ≤ 1048576) (hlow : ∀ ad, B = some ad → ad.block < w.heap.size) :
    Calls Tryz.prog 27 #[.slice B n c] w (DMz w) := by
  have hU0 : Up w (w.alloc (.cells #[.slice none 0 0, .slice none 0 0] 26)) := by go_grown
  have hR0 := Blk.new w 26 #[.slice none 0 0, .slice none 0 0]
  have hs0 : (w.alloc (.cells #[.slice none 0 0, .slice none 0 0] 26)).heap.size = w.heap.size + 1 := by simp
  obtain ⟨gr, hgr⟩ : ∃ gr, gr = w.heap.size := ⟨_, rfl⟩
  go_enter Tryz.func27, Tryz.ntmps27
  go_wp2_with fail
  refine (l1New_any B n c bs _ (hB.up hU0) hn (fun ad e => by have := hlow ad e; omega)).mono ?_
  rintro e w1 ⟨g, rfl, hC1, hb1, hg1⟩
  have hR1 := hR0.up hb1
  have hU1 := Up.then_ hU0 hb1
  rw [← hgr] at hR1 ⊢
  have hgr' : w.heap.size ≤ gr := by omega
  have hltg : gr < g := by omega
  have hlg : w.heap.size ≤ g := by omega
  clear hgr
  have hlt := hC1.lt
  go_wp2_with fail
  refine (l9Model_any hC1).mono ?_
  rintro e w2 ⟨v, rfl, ⟨A, na, ca, C, nc, cc, L, R, rfl, ha, hb, hna, hnc⟩, hC2, hg2⟩
  have hR2 := hR1.grown hg2 (fun e => by injection e with e; omega)
  have hU2 := hU1.grown hg2 hU1.size (fun k hk => by injection hk with hk; omega)
  have hU3 : Up w2 (w2.alloc (.cells #[.slice A na ca, .slice C nc cc] 26)) := by go_grown
  have hgs2 := hC2.lt
  have I : DBM w g B n c bs gr w2.heap.size A na ca L C nc cc R (w2.alloc (.cells #[.slice A na ca, .slice C nc cc] 26)) :=
    ⟨hC2.up hU3, hR2.up hU3, Blk.new _ _ _, (ha.more (by omega)).up hU3, (hb.more (by omega)).up hU3, Up.then_ hU2 hU3, hgr', hlg, hltg, hgs2⟩
  clear hR1 hU1 hC1 hR2 hU2 hU3 hC2 hg2 ha hb hR0 hU0 hb1 hs0 hgs2 hg1
  obtain ⟨gb, hgb⟩ : ∃ gb, gb = w2.heap.size := ⟨_, rfl⟩
  rw [← hgb] at I
  go_wp2_with fail
  rw [← hgb]
  generalize w2.alloc (.cells #[.slice A na ca, .slice C nc cc] 26) = w3 at I ⊢
  clear hgb
  have hy := I.box.two
  have hlb := I.box.lt
  have hgs := I.cur.lt
  have hyr := I.res.two
  have hf0 := I.res.frozen 0
  have hf1 := I.res.frozen 1
  go_region_with (refine (l1Below_any (I.up (Below.drew (Up.refl _))).cur 20 (by omega) (by omega)).mono ?_; rintro e w5 ⟨v, rfl, ⟨x, rfl, hx⟩, hC5, hg5⟩; have I5 := (I.up (Below.drew (Up.refl _))).dr hC5 hg5; have hy5 := I5.box.two; have hyr5 := I5.res.two; have hf50 := I5.res.frozen 0; have hf51 := I5.res.frozen 1; obtain ⟨z, hz⟩ : ∃ z, z = IntKind.i64.wrap ((x : Int) - 1) := ⟨_, rfl⟩)
  all_goals
    obtain ⟨f1, f2, f3, hfin⟩ := I5.fin
    try rw [← hz]
    clear I5 I hC5 hg5 hy5 hyr5 hf50 hf51 hy hyr hf0 hf1
    go_wp2
    generalize (w5.setCell ⟨gr, 0, none⟩ (.slice A na ca)).setCell ⟨gr, 1, none⟩ (.slice C nc cc) = Wf at f1 f2 f3 hfin ⊢
    refine bodyPost_ret (v := .tuple #[.agg #[.slice A na ca, .slice C nc cc], .int .i64 z]) ?_ rfl ?_
    · simp [results, Tryz.results27, go_sem, hfin]
    exact ⟨A, na, ca, C, nc, cc, L, R, z, rfl, f1, f2, hna, hnc, f3⟩
end Go.Proofs.YthncdjcmlpiebaaGreatDoor
