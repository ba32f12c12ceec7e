/- Draws: graphs of all kinds. Draws: graphs that may be none. Draws: graphs with holes. Draws: lists of vertices. -/
import Derived.Test.YthncdjcmlpiebaaGreatQi04
import Derived.Test.YthncdjcmlpiebaaGreatQi06
import Derived.Deep.RegionLaw
import Derived.Deep.RegionWith
import Derived.StillTailTactics
namespace Go.Proofs.YthncdjcmlpiebaaGreat
open Go.RowKit
set_option maxRecDepth 100000 in
set_option maxHeartbeats 1000000 in
theorem l2Draw_any {g : Nat} {B : Option Addr} {n c : Nat} {bs : List Int} {w : World} (hC : Cur w g B n c bs) :
    Calls Tryz.prog 172 #[.pointer (some ⟨g, 0, none⟩)] w (Dr g B n c bs w fun v w' => ∃ m, 1 ≤ m ∧ m ≤ 6 ∧ isGraphV w.heap.size m v w') := by
  have hlow := hC.lt
  have hU0 : Up w (w.alloc (.cells #[.int .i64 0, .slice none 0 0] 26)) := by go_grown
  have hR0 := Blk.new w 26 #[.int .i64 0, .slice none 0 0]
  have hC0 := hC.up hU0
  have hg0 := gb_of_up (some g) hU0
  go_enter Tryz.func172, Tryz.ntmps172
  go_wp2_with fail
  refine (l1Below_any hC0 6 (by omega) (by omega)).mono ?_
  rintro e w1 ⟨v, rfl, ⟨x, rfl, hx⟩, hC1, hg1⟩
  have hR1 := hR0.grown hg1 (fun e => by injection e with e; omega)
  have hG1 := gb_trans hg0 hg1
  clear hR0 hC0 hg0 hg1 hU0
  go_wp2_with fail
  refine (l1Below_any hC1 4 (by omega) (by omega)).mono ?_
  rintro e w2 ⟨v, rfl, ⟨y, rfl, hy⟩, hC2, hg2⟩
  have hR2 := hR1.grown hg2 (fun e => by injection e with e; omega)
  have hG2 := gb_trans hG1 hg2
  clear hR1 hG1 hC1 hg2
  obtain ⟨m, hm⟩ : ∃ m, m = 1 + x := ⟨_, rfl⟩
  have hmI : (1 : Int) + (x : Int) = ((m : Nat) : Int) := by omega
  have hm1 : 1 ≤ m := by omega
  have hm6 : m ≤ 6 := by omega
  have hsz2 := hG2.size
  clear hm
  by_cases hy0 : y = 0
  · subst hy0
    have hS : ∀ j, j < 5 → (w2.alloc (.cells #[.string ⟨#[112, 97, 116, 104]⟩, .string ⟨#[99, 121, 99, 108, 101]⟩, .string ⟨#[99, 111, 109, 112, 108, 101, 116, 101]⟩, .string ⟨#[115, 116, 97, 114]⟩, .string ⟨#[119, 104, 101, 101, 108]⟩] 9)).cell? ⟨w2.heap.size, j, none⟩ = some (.string (gname j)) := fun j hj => by
      rw [(Blk.new w2 9 _).cell]
      match j, hj with
      | 0, _ => rfl
      | 1, _ => rfl
      | 2, _ => rfl
      | 3, _ => rfl
      | 4, _ => rfl
    have hS' := Lib.hid hS
    clear hS
    go_wp2_with fail
    refine (l1Pick_any (hC2.up (by go_grown)) hS'.out (by simp) (by omega) (by omega) (by omega)).mono ?_
    rintro e w3 ⟨v, rfl, ⟨j, hj, rfl⟩, hC3, hg3⟩
    go_wp2_with fail
    refine (namedGraph_any j hj m hm1 (by omega) w3).mono ?_
    rintro e w4 ⟨A, d, Q, rfl, hq, ho, hb⟩
    have hs3 := hg3.size
    try simp only [World.size_alloc] at hs3
    have hs4 := hb.size
    have hU2 : Up w2 (w2.alloc (.cells #[.string ⟨#[112, 97, 116, 104]⟩, .string ⟨#[99, 121, 99, 108, 101]⟩, .string ⟨#[99, 111, 109, 112, 108, 101, 116, 101]⟩, .string ⟨#[115, 116, 97, 114]⟩, .string ⟨#[119, 104, 101, 101, 108]⟩] 9)) := by go_grown
    have hU4 : Up w4 (w4.alloc (.cells #[.int .i64 (m : Nat), .slice (some ⟨A, 0, none⟩) m d] 26)) := by go_grown
    have I : GS w g B n c bs w.heap.size w4.heap.size m (w4.alloc (.cells #[.int .i64 (m : Nat), .slice (some ⟨A, 0, none⟩) m d] 26)) A d Q :=
      ⟨((hC3.up hb).up hU4), (((hR2.up hU2).grown hg3 (fun e => by injection e with e; omega)).up hb).up hU4, Blk.new _ _ _, (ho.more (by omega)).up hU4, hq, gb_up (gb_up (gb_trans (gb_up hG2 hU2) hg3) hb) hU4, hlow, Nat.le_refl _, by omega, by omega⟩
    clear hU2 hU4 hC3 hR2 hG2 hS' hb ho hg3 hC2 hs4 hs3 hsz2
    go_wp2_with fail
    generalize w4.alloc (.cells #[.int .i64 (m : Nat), .slice (some ⟨A, 0, none⟩) m d] 26) = w5 at I ⊢
    obtain ⟨gb, hgb⟩ : ∃ gb, gb = w4.heap.size := ⟨_, rfl⟩
    obtain ⟨gr, hgr⟩ : ∃ gr, gr = w.heap.size := ⟨_, rfl⟩
    rw [← hgb] at I ⊢
    have I' : GS w g B n c bs gr gb m w5 A d Q := by rw [hgr]; exact I
    rw [← hgr]
    clear I hgb hgr
    have I := I'
    clear I'
    refine (l1Below_any I.cur m hm1 (by omega)).mono ?_
    rintro e w6 ⟨v, rfl, ⟨x1, rfl, hx1⟩, hC6, hg6⟩
    replace I := I.dr hC6 hg6
    clear hC6 hg6
    go_wp2_with fail
    refine (l1Below_any I.cur m hm1 (by omega)).mono ?_
    rintro e w7 ⟨v, rfl, ⟨x2, rfl, hx2⟩, hC7, hg7⟩
    replace I := I.dr hC7 hg7
    clear hC7 hg7
    go_wp2_with fail
    refine (l1Once_any I.cur 2 (by omega) (by omega)).mono ?_
    rintro e w8 ⟨v, rfl, ⟨b, rfl⟩, hC8, hg8⟩
    replace I := I.dr hC8 hg8
    clear hC8 hg8
    have fin : ∀ (A d : Nat) (Q : List Nat) (wr : World), GS w g B n c bs gr gb m wr A d Q → isGraphV w.heap.size m (.agg #[.int .i64 (m : Nat), .slice (some ⟨A, 0, none⟩) m d]) ((wr.setCell ⟨gr, 0, none⟩ (.int .i64 (m : Nat))).setCell ⟨gr, 1, none⟩ (.slice (some ⟨A, 0, none⟩) m d)) ∧ Cur ((wr.setCell ⟨gr, 0, none⟩ (.int .i64 (m : Nat))).setCell ⟨gr, 1, none⟩ (.slice (some ⟨A, 0, none⟩) m d)) g B n c bs ∧ w.grownBy ((wr.setCell ⟨gr, 0, none⟩ (.int .i64 (m : Nat))).setCell ⟨gr, 1, none⟩ (.slice (some ⟨A, 0, none⟩) m d)) (some g) ∧ (((wr.setCell ⟨gr, 0, none⟩ (.int .i64 (m : Nat))).setCell ⟨gr, 1, none⟩ (.slice (some ⟨A, 0, none⟩) m d)).cell? ⟨gr, 0, none⟩ = some (.int .i64 (m : Nat)) ∧ ((wr.setCell ⟨gr, 0, none⟩ (.int .i64 (m : Nat))).setCell ⟨gr, 1, none⟩ (.slice (some ⟨A, 0, none⟩) m d)).cell? ⟨gr, 1, none⟩ = some (.slice (some ⟨A, 0, none⟩) m d)) := fun A d Q wr I => by
      have hgr := I.hgr
      have hlow := I.low
      have hfin := ((I.res.set_ 0 (.int .i64 (m : Nat))).set_ 1 (.slice (some ⟨A, 0, none⟩) m d)).two
      have o2 := (I.own.other_store (i := 0) I.res (by decide) (.int .i64 (m : Nat))).other_store (i := 1) (I.res.set_ 0 (.int .i64 (m : Nat))) (by decide) (.slice (some ⟨A, 0, none⟩) m d)
      have hC2 := (I.cur.set (p := ⟨gr, 0, none⟩) (by show g < gr; omega) (.int .i64 (m : Nat))).set (p := ⟨gr, 1, none⟩) (by show g < gr; omega) (.slice (some ⟨A, 0, none⟩) m d)
      have hg2 := gb_set (gb_set I.gby (p := ⟨gr, 0, none⟩) hgr (.int .i64 (m : Nat))) (p := ⟨gr, 1, none⟩) hgr (.slice (some ⟨A, 0, none⟩) m d)
      exact ⟨⟨A, d, Q, rfl, I.ok, o2⟩, hC2, hg2, hfin⟩
    cases b
    · have hyr := I.res.two
      have hy := I.box.two
      have hfz := I.res.frozen
      have hf0 := hfz 0
      have hf1 := hfz 1
      clear hfz
      have fin' := fin A d Q w8 I
      clear fin I
      go_wp2
      generalize (w8.setCell ⟨gr, 0, none⟩ (.int .i64 (m : Nat))).setCell ⟨gr, 1, none⟩ (.slice (some ⟨A, 0, none⟩) m d) = Wf at fin' ⊢
      obtain ⟨f1, f2, f3, hfin⟩ := fin'
      refine bodyPost_ret (v := .agg #[.int .i64 (m : Nat), .slice (some ⟨A, 0, none⟩) m d]) ?_ rfl ?_
      · simp [results, Tryz.results172, go_sem, hfin]
      exact ⟨_, rfl, ⟨m, hm1, hm6, f1⟩, f2, f3⟩
    · have hy := I.box.two
      have hfz := I.box.frozen
      have hf0 := hfz 0
      have hf1 := hfz 1
      clear hfz
      go_wp2_with fail
      refine (addEdge_graph ⟨A, 0, none⟩ m d x1 x2 Q w8 I.own.ri I.ok hx1 hx2).mono ?_
      rintro e w9 ⟨A', d', Q', b', rfl, hq', ho', hb'⟩
      have I3 := I.put hb' ho' hq'
      have I2 := I.up hb'
      clear hy hf0 hf1 I ho'
      have hy := I2.box.two
      have hfz := I2.box.frozen
      have hf0 := hfz 0
      have hf1 := hfz 1
      clear hfz
      have hyr := I2.res.two
      have hfy := I2.res.frozen
      have hg0 := hfy 0
      have hg1 := hfy 1
      have hne := I2.ne
      have hne2 := Ne.symm I2.ne
      clear hfy
      have fin' := fin A' d' Q' _ I3
      clear fin I2 I3
      go_wp2
      generalize (((w9.setCell ⟨gb, 0, none⟩ (.int .i64 (m : Nat))).setCell ⟨gb, 1, none⟩ (.slice (some ⟨A', 0, none⟩) m d')).setCell ⟨gr, 0, none⟩ (.int .i64 (m : Nat))).setCell ⟨gr, 1, none⟩ (.slice (some ⟨A', 0, none⟩) m d') = Wf at fin' ⊢
      obtain ⟨f1, f2, f3, hfin⟩ := fin'
      refine bodyPost_ret (v := .agg #[.int .i64 (m : Nat), .slice (some ⟨A', 0, none⟩) m d']) ?_ rfl ?_
      · simp [results, Tryz.results172, go_sem, hfin]
      exact ⟨_, rfl, ⟨m, hm1, hm6, f1⟩, f2, f3⟩
  · have hyb : ((y : Int) == 0) = false := by rw [beq_eq_false_iff_ne]; omega
    have key : ∀ (v : Value) (w3 : World), isGraphV w2.heap.size m v w3 → Cur w3 g B n c bs → w2.grownBy w3 (some g) → ∃ (A d : Nat) (Q : List Nat), v = .agg #[.int .i64 (m : Nat), .slice (some ⟨A, 0, none⟩) m d] ∧ Blk w3 w.heap.size 26 #[.int .i64 0, .slice none 0 0] ∧ GOk m Q ∧ OwnI w3 w.heap.size (some ⟨A, 0, none⟩) m d (ints Q) ∧ Cur w3 g B n c bs ∧ w.grownBy w3 (some g) := fun v w3 hv hC3 hg3 => by
      obtain ⟨A, d, Q, rfl, hq, ho⟩ := hv
      exact ⟨A, d, Q, rfl, hR2.grown hg3 (fun e => by injection e with e; omega), hq, ho.more (by omega), hC3, gb_trans hG2 hg3⟩
    have fin : ∀ (A d : Nat) (Q : List Nat) (wr : World), Blk wr w.heap.size 26 #[.int .i64 0, .slice none 0 0] → GOk m Q → OwnI wr w.heap.size (some ⟨A, 0, none⟩) m d (ints Q) → Cur wr g B n c bs → w.grownBy wr (some g) → isGraphV w.heap.size m (.agg #[.int .i64 (m : Nat), .slice (some ⟨A, 0, none⟩) m d]) ((wr.setCell ⟨w.heap.size, 0, none⟩ (.int .i64 (m : Nat))).setCell ⟨w.heap.size, 1, none⟩ (.slice (some ⟨A, 0, none⟩) m d)) ∧ Cur ((wr.setCell ⟨w.heap.size, 0, none⟩ (.int .i64 (m : Nat))).setCell ⟨w.heap.size, 1, none⟩ (.slice (some ⟨A, 0, none⟩) m d)) g B n c bs ∧ w.grownBy ((wr.setCell ⟨w.heap.size, 0, none⟩ (.int .i64 (m : Nat))).setCell ⟨w.heap.size, 1, none⟩ (.slice (some ⟨A, 0, none⟩) m d)) (some g) ∧ (((wr.setCell ⟨w.heap.size, 0, none⟩ (.int .i64 (m : Nat))).setCell ⟨w.heap.size, 1, none⟩ (.slice (some ⟨A, 0, none⟩) m d)).cell? ⟨w.heap.size, 0, none⟩ = some (.int .i64 (m : Nat)) ∧ ((wr.setCell ⟨w.heap.size, 0, none⟩ (.int .i64 (m : Nat))).setCell ⟨w.heap.size, 1, none⟩ (.slice (some ⟨A, 0, none⟩) m d)).cell? ⟨w.heap.size, 1, none⟩ = some (.slice (some ⟨A, 0, none⟩) m d)) := fun A d Q wr hR hq ho hC hg => by
      have hfin := ((hR.set_ 0 (.int .i64 (m : Nat))).set_ 1 (.slice (some ⟨A, 0, none⟩) m d)).two
      have o2 := (ho.other_store (i := 0) hR (by decide) (.int .i64 (m : Nat))).other_store (i := 1) (hR.set_ 0 (.int .i64 (m : Nat))) (by decide) (.slice (some ⟨A, 0, none⟩) m d)
      have hC2 := (hC.set (p := ⟨w.heap.size, 0, none⟩) (by show g < w.heap.size; omega) (.int .i64 (m : Nat))).set (p := ⟨w.heap.size, 1, none⟩) (by show g < w.heap.size; omega) (.slice (some ⟨A, 0, none⟩) m d)
      have hg2 := gb_set (gb_set hg (p := ⟨w.heap.size, 0, none⟩) (Nat.le_refl _) (.int .i64 (m : Nat))) (p := ⟨w.heap.size, 1, none⟩) (Nat.le_refl _) (.slice (some ⟨A, 0, none⟩) m d)
      exact ⟨⟨A, d, Q, rfl, hq, o2⟩, hC2, hg2, hfin⟩
    by_cases hy1 : y = 1
    · subst hy1
      go_wp2_with fail
      refine (l2Random_any hC2 m hm1 (by omega) 7).mono ?_
      rintro e w3 ⟨v, rfl, hv, hC3, hg3⟩
      obtain ⟨A, d, Q, rfl, hR3, hq, ho, hC3', hg3'⟩ := key v w3 hv hC3 hg3
      have hyr := hR3.two
      have hf0 := hR3.frozen 0
      have hf1 := hR3.frozen 1
      have fin' := fin A d Q w3 hR3 hq ho hC3' hg3'
      clear fin key hR2 hG2 hC2 hv hC3 hg3 hR3 hq ho hC3' hg3'
      go_wp2
      generalize (w3.setCell ⟨w.heap.size, 0, none⟩ (.int .i64 (m : Nat))).setCell ⟨w.heap.size, 1, none⟩ (.slice (some ⟨A, 0, none⟩) m d) = Wf at fin' ⊢
      obtain ⟨f1, f2, f3, hfin⟩ := fin'
      refine bodyPost_ret (v := .agg #[.int .i64 (m : Nat), .slice (some ⟨A, 0, none⟩) m d]) ?_ rfl ?_
      · simp [results, Tryz.results172, go_sem, hfin]
      exact ⟨_, rfl, ⟨m, hm1, hm6, f1⟩, f2, f3⟩
    · have hyb1 : ((y : Int) == 1) = false := by rw [beq_eq_false_iff_ne]; omega
      go_wp2_with fail
      refine (l2Random_any hC2 m hm1 (by omega) 4).mono ?_
      rintro e w3 ⟨v, rfl, hv, hC3, hg3⟩
      obtain ⟨A, d, Q, rfl, hR3, hq, ho, hC3', hg3'⟩ := key v w3 hv hC3 hg3
      have hyr := hR3.two
      have hf0 := hR3.frozen 0
      have hf1 := hR3.frozen 1
      have fin' := fin A d Q w3 hR3 hq ho hC3' hg3'
      clear fin key hR2 hG2 hC2 hv hC3 hg3 hR3 hq ho hC3' hg3'
      go_wp2
      generalize (w3.setCell ⟨w.heap.size, 0, none⟩ (.int .i64 (m : Nat))).setCell ⟨w.heap.size, 1, none⟩ (.slice (some ⟨A, 0, none⟩) m d) = Wf at fin' ⊢
      obtain ⟨f1, f2, f3, hfin⟩ := fin'
      refine bodyPost_ret (v := .agg #[.int .i64 (m : Nat), .slice (some ⟨A, 0, none⟩) m d]) ?_ rfl ?_
      · simp [results, Tryz.results172, go_sem, hfin]
      exact ⟨_, rfl, ⟨m, hm1, hm6, f1⟩, f2, f3⟩
end Go.Proofs.YthncdjcmlpiebaaGreat
namespace Go.Proofs.YthncdjcmlpiebaaGreat
open Go.RowKit
/-- A graph, or what looks like one: its rows are of the call's own. -/
def Gv (P : Int → List Int → Prop) (base : Nat) (v : Value) (w' : World) : Prop := ∃ N A m d X, v = .agg #[.int .i64 N, .slice A m d] ∧ OwnI w' base A m d X ∧ P N X
/-- At most six rows. -/
def le6 (_ : Int) (X : List Int) : Prop := X.length ≤ 6
set_option maxRecDepth 100000 in
/-- A graph's fields put into a box. -/
theorem putG {w wr : World} {g n c base gr m d : Nat} {B : Option Addr} {bs : List Int} {x y : Value} {N : Int} {A : Option Addr} {X : List Int} (hr : Blk wr gr 26 #[x, y]) (ho : OwnI wr base A m d X) (hC : Cur wr g B n c bs) (hg : w.grownBy wr (some g)) (hgr : w.heap.size ≤ gr) (hlow : g < w.heap.size) :
    OwnI ((wr.setCell ⟨gr, 0, none⟩ (.int .i64 N)).setCell ⟨gr, 1, none⟩ (.slice A m d)) base A m d X ∧ Blk ((wr.setCell ⟨gr, 0, none⟩ (.int .i64 N)).setCell ⟨gr, 1, none⟩ (.slice A m d)) gr 26 #[.int .i64 N, .slice A m d] ∧ Cur ((wr.setCell ⟨gr, 0, none⟩ (.int .i64 N)).setCell ⟨gr, 1, none⟩ (.slice A m d)) g B n c bs ∧ w.grownBy ((wr.setCell ⟨gr, 0, none⟩ (.int .i64 N)).setCell ⟨gr, 1, none⟩ (.slice A m d)) (some g) :=
  ⟨(ho.other_store (i := 0) hr (by decide) _).other_store (i := 1) (hr.set_ 0 _) (by decide) _, (hr.set_ 0 _).set_ 1 _,
    (hC.set (p := ⟨gr, 0, none⟩) (by show g < gr; omega) _).set (p := ⟨gr, 1, none⟩) (by show g < gr; omega) _, gb_set (gb_set hg (p := ⟨gr, 0, none⟩) hgr _) (p := ⟨gr, 1, none⟩) hgr _⟩
set_option maxRecDepth 100000 in
set_option maxHeartbeats 2000000 in
theorem l2Any_any {g : Nat} {B : Option Addr} {n c : Nat} {bs : List Int} {w : World} (hC : Cur w g B n c bs) :
    Calls Tryz.prog 162 #[.pointer (some ⟨g, 0, none⟩)] w (Dr g B n c bs w fun v w' => Gv le6 w.heap.size v w') := by
  have hlow := hC.lt
  have hU0 : Up w (w.alloc (.cells #[.int .i64 0, .slice none 0 0] 26)) := by go_grown
  have hR0 := Blk.new w 26 #[.int .i64 0, .slice none 0 0]
  have hC0 := hC.up hU0
  have hg0 := gb_of_up (some g) hU0
  obtain ⟨gr, hgr⟩ : ∃ gr, gr = w.heap.size := ⟨_, rfl⟩
  go_enter Tryz.func162, Tryz.ntmps162
  go_wp2_with fail
  refine (l2Draw_any hC0).mono ?_
  rintro e w1 ⟨v, rfl, ⟨m, hm1, hm6, A, d, Q, rfl, hq, ho⟩, hC1, hg1⟩
  have hs1 := hg1.size
  try simp only [World.size_alloc] at hs1
  have hR1 := hR0.grown hg1 (fun e => by injection e with e; omega)
  have hG1 := gb_trans hg0 hg1
  have hU1 : Up w1 (w1.alloc (.cells #[.int .i64 (m : Nat), .slice (some ⟨A, 0, none⟩) m d] 26)) := by go_grown
  have hB2 := Blk.new w1 26 #[.int .i64 (m : Nat), .slice (some ⟨A, 0, none⟩) m d]
  have hR2 := hR1.up hU1
  have hC2 := hC1.up hU1
  have hG2 := gb_up hG1 hU1
  have ho2 := (ho.more (base' := w.heap.size) (by simp)).up hU1
  obtain ⟨gb, hgb⟩ : ∃ gb, gb = w1.heap.size := ⟨_, rfl⟩
  rw [← hgr] at hR2 ⊢
  rw [← hgb] at hB2
  clear hR0 hC0 hg0 hg1 hU0 hR1 hC1 hG1 ho hC
  go_wp2_with fail
  generalize w1.alloc (.cells #[.int .i64 (m : Nat), .slice (some ⟨A, 0, none⟩) m d] 26) = w2 at hB2 hR2 hC2 hG2 ho2 ⊢
  rw [← hgb, ← hgr]
  have hgrb : gr ≠ gb := by omega
  have hgb' : w.heap.size ≤ gb := by omega
  clear hU1 hgb
  refine (l1Below_any hC2 18 (by omega) (by omega)).mono ?_
  rintro e w3 ⟨v, rfl, ⟨x, rfl, hx⟩, hC3, hg3⟩
  have hR3 := hR2.grown hg3 (fun e => by injection e with e; omega)
  have hB3 := hB2.grown hg3 (fun e => by injection e with e; omega)
  have hG3 := gb_trans hG2 hg3
  have ho3 := ho2.far_gb hg3 hlow
  clear hR2 hB2 hC2 hG2 ho2 hg3
  -- what comes at the end: the box is loaded, the result put
  have fin : ∀ (N : Int) (X : List Int) (wr : World), Blk wr gr 26 #[.int .i64 0, .slice none 0 0] → OwnI wr w.heap.size (some ⟨A, 0, none⟩) m d X → Cur wr g B n c bs → w.grownBy wr (some g) →
      Dr g B n c bs w (fun v w' => Gv le6 w.heap.size v w') (.returned (.agg #[.int .i64 N, .slice (some ⟨A, 0, none⟩) m d])) ((wr.setCell ⟨gr, 0, none⟩ (.int .i64 N)).setCell ⟨gr, 1, none⟩ (.slice (some ⟨A, 0, none⟩) m d)) ∧
      (((wr.setCell ⟨gr, 0, none⟩ (.int .i64 N)).setCell ⟨gr, 1, none⟩ (.slice (some ⟨A, 0, none⟩) m d)).cell? ⟨gr, 0, none⟩ = some (.int .i64 N) ∧ ((wr.setCell ⟨gr, 0, none⟩ (.int .i64 N)).setCell ⟨gr, 1, none⟩ (.slice (some ⟨A, 0, none⟩) m d)).cell? ⟨gr, 1, none⟩ = some (.slice (some ⟨A, 0, none⟩) m d)) := fun N X wr hR ho hC hG => by
    obtain ⟨h1, h2, h3, h4⟩ := putG (N := N) hR ho hC hG (Nat.le_of_eq hgr.symm) hlow
    exact ⟨⟨_, rfl, ⟨N, _, m, d, X, rfl, h1, (by show X.length ≤ 6; rw [h1.len]; exact hm6)⟩, h3, h4⟩, h2.two⟩
  have hsz3 := hG3.size
  have hgr' : w.heap.size ≤ gr := by omega
  clear hgr
  by_cases hx0 : x = 0
  · subst hx0
    have hU4 : Up w3 (w3.alloc (.cells #[.int .i64 0, .int .i64 (-1), .int .i64 8, .int .i64 3] 3)) := by go_grown
    have hX4 : RI (w3.alloc (.cells #[.int .i64 0, .int .i64 (-1), .int .i64 8, .int .i64 3] 3)) (some ⟨w3.heap.size, 0, none⟩) 4 [0, -1, 8, 3] := Blk.ri (Blk.new w3 3 _) rfl
    have hgs3 := hC3.lt
    go_wp2_with fail
    refine (l1PickInt_any (hC3.up hU4) hX4 (fun ad e => by injection e with e; subst e; show w3.heap.size ≠ g; omega) (by omega) (by omega)).mono ?_
    rintro e w4 ⟨v, rfl, ⟨j, hj, rfl⟩, hC4, hg4⟩
    obtain ⟨z, hz⟩ : ∃ z, z = ([0, -1, 8, 3] : List Int).getD j 0 := ⟨_, rfl⟩
    rw [← hz]
    clear hz
    have hR4 := (hR3.up hU4).grown hg4 (fun e => by injection e with e; omega)
    have hB4 := (hB3.up hU4).grown hg4 (fun e => by injection e with e; omega)
    have hG4 := gb_trans (gb_up hG3 hU4) hg4
    have ho4 := (ho3.up hU4).far_gb hg4 hlow
    have hy := hB4.two
    have hyr := hR4.two
    have f0 := hB4.frozen 0
    have f1 := hR4.frozen 0
    have f2 := hR4.frozen 1
    have hR5 := hR4.far (p := ⟨gb, 0, none⟩) hgrb (.int .i64 z)
    have hB5 := hB4.set_ 0 (.int .i64 z)
    have hC5 := hC4.set (p := ⟨gb, 0, none⟩) (by show g < gb; omega) (.int .i64 z)
    have hG5 := gb_set hG4 (p := ⟨gb, 0, none⟩) hgb' (.int .i64 z)
    have ho5 := ho4.other_store (i := 0) hB4 (by decide) (.int .i64 z)
    have fin' := fin z (ints Q) _ hR5 ho5 hC5 hG5
    have hgrb2 := Ne.symm hgrb
    clear fin hU4 hX4 hR5 hB5 hC5 hG5 ho5 hR4 hB4 hG4 ho4 hC4 hg4 hR3 hB3 hC3 hG3 ho3
    go_wp2
    generalize ((w4.setCell ⟨gb, 0, none⟩ (.int .i64 z)).setCell ⟨gr, 0, none⟩ (.int .i64 z)).setCell ⟨gr, 1, none⟩ (.slice (some ⟨A, 0, none⟩) m d) = Wf at fin' ⊢
    obtain ⟨f1, hfin⟩ := fin'
    refine bodyPost_ret (v := .agg #[.int .i64 z, .slice (some ⟨A, 0, none⟩) m d]) ?_ rfl ?_
    · simp [results, Tryz.results162, go_sem, hfin]
    exact f1
  · have hxb : ((x : Int) == 0) = false := by rw [beq_eq_false_iff_ne]; omega
    by_cases hx1 : x = 1
    · subst hx1
      have hy := hB3.two
      have hgs3 := hC3.lt
      go_wp2_with fail
      have hU4 : Up w3 (w3.alloc (.cells #[.int .i64 (-1), .int .i64 1, .int .i64 2, .int .i64 128, .int .i64 9223372036854775807] 3)).drew := Below.drew (by go_grown)
      have hX4 : RI (w3.alloc (.cells #[.int .i64 (-1), .int .i64 1, .int .i64 2, .int .i64 128, .int .i64 9223372036854775807] 3)).drew (some ⟨w3.heap.size, 0, none⟩) 5 [-1, 1, 2, 128, 9223372036854775807] := RI.drew (Blk.ri (Blk.new w3 3 _) rfl)
      have hA0 : A ≠ gb := fun e => own_blk_ne ho3 hB3 (by decide) (by rw [e]; rfl)
      have hA1 : A ≠ gr := fun e => own_blk_ne ho3 hR3 (by decide) (by rw [e]; rfl)
      have hAw : w.heap.size ≤ A := (ho3.block A rfl).1
      have hm0 : 0 < m := hm1
      have hlb := hB3.lt
      go_region_with (refine (l1PickInt_any (hC3.up hU4) hX4 (fun ad e => by injection e with e; subst e; show w3.heap.size ≠ g; omega) (by omega) (by omega)).mono ?_; rintro e w4 ⟨v, rfl, ⟨j, hj, rfl⟩, hC4, hg4⟩; obtain ⟨z, hz⟩ : ∃ z, z = ([-1, 1, 2, 128, 9223372036854775807] : List Int).getD j 0 := ⟨_, rfl⟩; rw [← hz]; clear hz hj; have hB4 := (hB3.up hU4).grown hg4 (fun e => by injection e with e; omega); have ho4 := (ho3.up hU4).far_gb hg4 hlow; have hy4 := hB4.two; have hc4 := ho4.nat hm0; have hf4 := ho4.frz 0)
      all_goals
        have hR4 := (hR3.up hU4).grown hg4 (fun e => by injection e with e; omega)
        have hG4 := gb_trans (gb_up hG3 hU4) hg4
        have hR5 := hR4.far (p := ⟨A, 0, none⟩) (fun e => hA1 e.symm) (.int .i64 z)
        have hB5 := hB4.far (p := ⟨A, 0, none⟩) (fun e => hA0 e.symm) (.int .i64 z)
        have hC5 := hC4.set (p := ⟨A, 0, none⟩) (by show g < A; omega) (.int .i64 z)
        have hG5 := gb_set hG4 (p := ⟨A, 0, none⟩) hAw (.int .i64 z)
        have ho5 := (ho4.put 0 z).1
        clear hR3 hB3 hC3 hG3 ho3 hU4 hX4 hR4 hG4 hB4 ho4 hC4 hy hg4 hy4 hc4 hf4
        generalize w4.setCell ⟨A, 0, none⟩ (.int .i64 z) = w5 at hR5 hB5 hC5 hG5 ho5 ⊢
        have hy5 := hB5.two
        have hf0 := hR5.frozen 0
        have hf1 := hR5.frozen 1
        have hyr := hR5.two
        have fin' := fin (m : Nat) _ _ hR5 ho5 hC5 hG5
        clear fin hR5 hB5 hC5 hG5 ho5
        go_wp2
        generalize (w5.setCell ⟨gr, 0, none⟩ (.int .i64 (m : Nat))).setCell ⟨gr, 1, none⟩ (.slice (some ⟨A, 0, none⟩) m d) = Wf at fin' ⊢
        obtain ⟨f1, hfin⟩ := fin'
        refine bodyPost_ret (v := .agg #[.int .i64 (m : Nat), .slice (some ⟨A, 0, none⟩) m d]) ?_ rfl ?_
        · simp [results, Tryz.results162, go_sem, hfin]
        exact f1
    · have hxb1 : ((x : Int) == 1) = false := by rw [beq_eq_false_iff_ne]; omega
      have hy5 := hB3.two
      have hf0 := hR3.frozen 0
      have hf1 := hR3.frozen 1
      have hyr := hR3.two
      have fin' := fin (m : Nat) _ _ hR3 ho3 hC3 hG3
      clear fin hR3 hB3 hC3 hG3 ho3
      go_wp2
      generalize (w3.setCell ⟨gr, 0, none⟩ (.int .i64 (m : Nat))).setCell ⟨gr, 1, none⟩ (.slice (some ⟨A, 0, none⟩) m d) = Wf at fin' ⊢
      obtain ⟨f1, hfin⟩ := fin'
      refine bodyPost_ret (v := .agg #[.int .i64 (m : Nat), .slice (some ⟨A, 0, none⟩) m d]) ?_ rfl ?_
      · simp [results, Tryz.results162, go_sem, hfin]
      exact f1
end Go.Proofs.YthncdjcmlpiebaaGreat
namespace Go.Proofs.YthncdjcmlpiebaaGreat
open Go.RowKit
set_option maxRecDepth 100000 in
theorem finG {P : Int → List Int → Prop} {w wr : World} {g n c gr m d : Nat} {B : Option Addr} {bs : List Int} {x y : Value} {N : Int} {A : Option Addr} {X : List Int} (hr : Blk wr gr 26 #[x, y]) (ho : OwnI wr w.heap.size A m d X) (hP : P N X) (hC : Cur wr g B n c bs) (hg : w.grownBy wr (some g)) (hgr : w.heap.size ≤ gr) (hlow : g < w.heap.size) :
    Dr g B n c bs w (fun v w' => Gv P w.heap.size v w') (.returned (.agg #[.int .i64 N, .slice A m d])) ((wr.setCell ⟨gr, 0, none⟩ (.int .i64 N)).setCell ⟨gr, 1, none⟩ (.slice A m d)) ∧
      (((wr.setCell ⟨gr, 0, none⟩ (.int .i64 N)).setCell ⟨gr, 1, none⟩ (.slice A m d)).cell? ⟨gr, 0, none⟩ = some (.int .i64 N) ∧ ((wr.setCell ⟨gr, 0, none⟩ (.int .i64 N)).setCell ⟨gr, 1, none⟩ (.slice A m d)).cell? ⟨gr, 1, none⟩ = some (.slice A m d)) := by
  obtain ⟨h1, h2, h3, h4⟩ := putG (N := N) hr ho hC hg hgr hlow
  exact ⟨⟨_, rfl, ⟨N, _, m, d, X, rfl, h1, hP⟩, h3, h4⟩, h2.two⟩
end Go.Proofs.YthncdjcmlpiebaaGreat
namespace Go.Proofs.YthncdjcmlpiebaaGreat
open Go.RowKit
set_option maxRecDepth 100000 in
theorem gb_far {w w' w'' : World} {g : Nat} {r : Option Nat} (h : w.grownBy w' (some g)) (h2 : w'.grownBy w'' r) (hr : ∀ k, r = some k → w.heap.size ≤ k) : w.grownBy w'' (some g) :=
  ⟨h2.os.trans h.os, h2.tape.trans h.tape, h2.output.trans h.output, Nat.le_trans h.size h2.size, fun i hi hne => (h2.block i (Nat.lt_of_lt_of_le hi h.size) (fun e => by have := hr i e.symm; omega)).trans (h.block i hi hne)⟩
/-- A drawn list: of the call's own. -/
def Lv (k base : Nat) (v : Value) (w' : World) : Prop := ∃ A d xs, v = .slice A xs.length d ∧ OwnI w' base A xs.length d xs ∧ xs.length ≤ k
set_option maxRecDepth 100000 in
theorem l1Below_int {g : Nat} {B : Option Addr} {n c : Nat} {bs : List Int} {w : World} (hC : Cur w g B n c bs) (z : Int) (h0 : 1 ≤ z) (hm : z ≤ 256) :
    Calls Tryz.prog 106 #[.pointer (some ⟨g, 0, none⟩), .int .i64 z] w (Dr g B n c bs w fun v _ => ∃ x : Nat, v = .int .i64 x ∧ (x : Int) < z) := by
  obtain ⟨m, rfl⟩ : ∃ m : Nat, z = m := ⟨z.toNat, by omega⟩
  refine (l1Below_any hC m (by omega) (by omega)).mono ?_
  rintro e w' ⟨v, rfl, ⟨x, rfl, hx⟩, h1, h2⟩
  exact ⟨_, rfl, ⟨x, rfl, by omega⟩, h1, h2⟩
set_option maxRecDepth 100000 in
set_option maxHeartbeats 2000000 in
theorem l4List_any {g : Nat} {B : Option Addr} {n c : Nat} {bs : List Int} {w : World} (hC : Cur w g B n c bs) (N : Int) (A : Option Addr) (m d : Nat) :
    Calls Tryz.prog 84 #[.pointer (some ⟨g, 0, none⟩), .agg #[.int .i64 N, .slice A m d]] w (Dr g B n c bs w fun v w' => Lv 6 w.heap.size v w') := by
  have hlow := hC.lt
  have hown0 : OwnI ((w.alloc (.cells #[.int .i64 N, .slice A m d] 26)).alloc (.cells #[] 3)) w.heap.size (some ⟨w.heap.size + 1, 0, none⟩) 0 0 [] := OwnI.made_at (by simp) (by omega)
  have hU0 : Up w ((w.alloc (.cells #[.int .i64 N, .slice A m d] 26)).alloc (.cells #[] 3)) := by go_grown
  have hB0 := (Blk.new w 26 #[.int .i64 N, .slice A m d]).alloc (.cells #[] 3)
  have hC0 := hC.up hU0
  have hG0 := gb_of_up (some g) hU0
  go_enter Tryz.func84, Tryz.ntmps84
  go_wp2_with fail
  refine (l1Below_any hC0 6 (by omega) (by omega)).mono ?_
  rintro e w1 ⟨v, rfl, ⟨x, rfl, hx⟩, hC1, hg1⟩
  have hB1 := hB0.grown hg1 (fun e => by injection e with e; omega)
  have hG1 := gb_trans hG0 hg1
  have hO1 := hown0.far_gb hg1 hlow
  clear hB0 hC0 hG0 hown0 hU0 hg1 hC
  obtain ⟨gb, hgb⟩ : ∃ gb, gb = w.heap.size := ⟨_, rfl⟩
  obtain ⟨go, hgo⟩ : ∃ go, go = w.heap.size + 1 := ⟨_, rfl⟩
  rw [← hgo] at hO1 ⊢
  rw [← hgb] at hB1 ⊢
  have hgb' : w.heap.size ≤ gb := by omega
  have hgg : g < gb := by omega
  clear hgb hgo
  go_wp2_with fail
  go_loopw [5, 6] (fun v i wr => ∃ (k : Nat) (A' : Option Addr) (d' : Nat) (xs : List Int), xs.length + k ≤ 5 ∧ i = .int .i64 k ∧ v = .slice A' xs.length d' ∧ OwnI wr w.heap.size A' xs.length d' xs ∧ Blk wr gb 26 #[.int .i64 N, .slice A m d] ∧ Cur wr g B n c bs ∧ w.grownBy wr (some g)) (fun _ i _ => (intOf i).toNat)
  case atStart => exact ⟨x, _, _, [], by simp; omega, rfl, rfl, hO1, hB1, hC1, hG1⟩
  case round =>
    clear hO1 hB1 hC1 hG1
    obtain ⟨k, A', d', xs, hk, rfl, rfl, hO, hB, hC, hG⟩ := hrel
    by_cases hk0 : 0 < k
    · have hy := hB.two
      have hs := hG.size
      go_wp2_with fail
      all_goals
        refine (l1Below_int hC _ (by omega) (by omega)).mono ?_
        rintro e w2 ⟨v, rfl, ⟨z, rfl, hz⟩, hC2, hg2⟩
        have hB2 := hB.grown hg2 (fun e => by injection e with e; omega)
        have hO2 := hO.far_gb hg2 hlow
        have hG2 := gb_trans hG hg2
        clear hO hG hC hg2 hB hz hy
        have hcell := (Blk.new w2 3 #[.int .i64 (z : Int)]).one
        have hs2 := hG2.size
        have hU3 : Up w2 (w2.alloc (.cells #[.int .i64 (z : Int)] 3)) := by go_grown
        go_wp2_with (at_builtin; refine wpList_push rfl (.tmp 14) (.tmp 21) rfl (z : Int) rfl (hO2.alloc _) ⟨w2.heap.size, 0, none⟩ rfl hcell (by omega) (by simp; omega) ?_; intro A4 c4 w5 hown5 hb5 hg5)
        have hrow : ∀ r, (Value.slice A' xs.length d').ownBlock = some r → w.heap.size ≤ r := fun r hr => (hO2.block r hr).1
        have hG5 := gb_far (gb_up hG2 hU3) hg5 hrow
        have hC5 := (hC2.up hU3).grown hg5 (fun r hr => by have := hrow r hr; omega)
        have hB5 := (hO2.up hU3).keeps hg5 (hB2.up hU3) (by decide)
        go_roundw
        case rel => exact ⟨k - 1, A4, c4, xs ++ [(z : Int)], by simp; omega, by first | go_num | (show Value.int .i64 _ = Value.int .i64 _; congr 1; omega), by simp, hown5.cast (by simp) rfl, hB5, hC5, hG5⟩
        case measure => simp [intOf]; omega
    · obtain rfl : k = 0 := by omega
      have hs := hG.size
      go_wp2_with fail
      refine (l1Once_any hC 14 (by omega) (by omega)).mono ?_
      rintro e w2 ⟨v, rfl, ⟨b, rfl⟩, hC2, hg2⟩
      have hO2 := hO.far_gb hg2 hlow
      have hG2 := gb_trans hG hg2
      clear hO hG hC hg2 hB
      cases b
      · go_wp2
        go_ret
        exact ⟨_, rfl, ⟨_, _, xs, rfl, hO2, by omega⟩, hC2, hG2⟩
      · have hU3 : Up w2 (w2.alloc (.cells #[.int .i64 (-1), .int .i64 7] 3)) := by go_grown
        have hX3 : RI (w2.alloc (.cells #[.int .i64 (-1), .int .i64 7] 3)) (some ⟨w2.heap.size, 0, none⟩) 2 [-1, 7] := Blk.ri (Blk.new w2 3 _) rfl
        have hgs := hC2.lt
        have hs2 := hG2.size
        go_wp2_with fail
        refine (l1PickInt_any (hC2.up hU3) hX3 (fun ad e => by injection e with e; subst e; show w2.heap.size ≠ g; omega) (by omega) (by omega)).mono ?_
        rintro e w3 ⟨v, rfl, ⟨j, hj, rfl⟩, hC3, hg3⟩
        have hO3 := (hO2.up hU3).far_gb hg3 hlow
        have hG3 := gb_trans (gb_up hG2 hU3) hg3
        obtain ⟨z, hz⟩ : ∃ z, z = ([-1, 7] : List Int).getD j 0 := ⟨_, rfl⟩
        rw [← hz]
        clear hz hU3 hX3 hC2 hO2 hG2 hg3
        have hcell := (Blk.new w3 3 #[.int .i64 z]).one
        have hs3 := hG3.size
        go_wp2_with (at_builtin; refine wpList_push rfl (.tmp 25) (.tmp 29) rfl z rfl (hO3.alloc _) ⟨w3.heap.size, 0, none⟩ rfl hcell (by omega) (by simp; omega) ?_; intro A4 c4 w5 hown5 hb5 hg5)
        have hrow : ∀ r, (Value.slice A' xs.length d').ownBlock = some r → w.heap.size ≤ r := fun r hr => (hO3.block r hr).1
        have hU4 : Up w3 (w3.alloc (.cells #[.int .i64 z] 3)) := by go_grown
        have hG5 := gb_far (gb_up hG3 hU4) hg5 hrow
        have hC5 := (hC3.up hU4).grown hg5 (fun r hr => by have := hrow r hr; omega)
        go_ret
        exact ⟨_, rfl, ⟨A4, c4, xs ++ [z], by simp, hown5.cast (by simp) rfl, by simp; omega⟩, hC5, hG5⟩
end Go.Proofs.YthncdjcmlpiebaaGreat
