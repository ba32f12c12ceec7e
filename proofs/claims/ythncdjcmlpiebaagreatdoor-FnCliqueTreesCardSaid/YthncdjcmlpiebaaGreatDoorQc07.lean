/- Draws: graphs of all kinds. Draws: graphs that may be none. Draws: graphs with holes. Draws: lists of vertices. Walks of chapter 5: vertices, labels, the lexicographic order of the program. Walks of chapter 5: labels, the lexicographic order of the program. Walks of chapter 5: the reference's labels and lexicographic order. Walks of chapter 6: the reference's elimination order. -/
import Derived.Test.YthncdjcmlpiebaaGreatDoorQc01
import Derived.Test.YthncdjcmlpiebaaGreatDoorQc02
import Derived.Test.YthncdjcmlpiebaaGreatDoorQc03
import Derived.Test.YthncdjcmlpiebaaGreatDoorQc04
import Derived.Test.YthncdjcmlpiebaaGreatDoorQc06
import Derived.Deep.LoopGhost
import Derived.Deep.RegionLaw
import Derived.Deep.RegionWith
import Derived.StillTailTactics
namespace Go.Proofs.YthncdjcmlpiebaaGreatDoor
open Go.RowKit
set_option maxRecDepth 100000 in
set_option maxHeartbeats 1000000 in
theorem l2Draw_any {g : Nat} {B : Option Addr} {n c : Nat} {bs : List Int} {w : World} (hC : Cur w g B n c bs) :
    Calls Tryz.prog 146 #[.pointer (some ⟨g, 0, none⟩)] w (Dr g B n c bs w fun v w' => ∃ m, 1 ≤ m ∧ m ≤ 6 ∧ isGraphV w.heap.size m v w') := by
  have hlow := hC.lt
  have hU0 : Up w (w.alloc (.cells #[.int .i64 0, .slice none 0 0] 29)) := by go_grown
  have hR0 := Blk.new w 29 #[.int .i64 0, .slice none 0 0]
  have hC0 := hC.up hU0
  have hg0 := gb_of_up (some g) hU0
  go_enter Tryz.func146, Tryz.ntmps146
  go_wp2_with fail
  refine (l1Below_any hC0 6 (by omega) (by omega)).mono ?_
  rintro e w1 ⟨v, rfl, ⟨x, rfl, hx⟩, hC1, hg1⟩
  have hR1 := hR0.grown hg1 (fun e => by injection e with e; omega)
  have hG1 := gb_trans hg0 hg1
  clear hR0 hC0 hg0 hg1 hU0
  go_wp2_with fail
  refine (l1Below_any hC1 4 (by omega) (by omega)).mono ?_
  rintro e w2 ⟨v, rfl, ⟨y, rfl, hy⟩, hC2, hg2⟩
  have hR2 := hR1.grown hg2 (fun e => by injection e with e; omega)
  have hG2 := gb_trans hG1 hg2
  clear hR1 hG1 hC1 hg2
  obtain ⟨m, hm⟩ : ∃ m, m = 1 + x := ⟨_, rfl⟩
  have hmI : (1 : Int) + (x : Int) = ((m : Nat) : Int) := by omega
  have hm1 : 1 ≤ m := by omega
  have hm6 : m ≤ 6 := by omega
  have hsz2 := hG2.size
  clear hm
  by_cases hy0 : y = 0
  · subst hy0
    have hS : ∀ j, j < 5 → (w2.alloc (.cells #[.string ⟨#[112, 97, 116, 104]⟩, .string ⟨#[99, 121, 99, 108, 101]⟩, .string ⟨#[99, 111, 109, 112, 108, 101, 116, 101]⟩, .string ⟨#[115, 116, 97, 114]⟩, .string ⟨#[119, 104, 101, 101, 108]⟩] 9)).cell? ⟨w2.heap.size, j, none⟩ = some (.string (gname j)) := fun j hj => by
      rw [(Blk.new w2 9 _).cell]
      match j, hj with
      | 0, _ => rfl
      | 1, _ => rfl
      | 2, _ => rfl
      | 3, _ => rfl
      | 4, _ => rfl
    have hS' := Lib.hid hS
    clear hS
    go_wp2_with fail
    refine (l1Pick_any (hC2.up (by go_grown)) hS'.out (by simp) (by omega) (by omega) (by omega)).mono ?_
    rintro e w3 ⟨v, rfl, ⟨j, hj, rfl⟩, hC3, hg3⟩
    go_wp2_with fail
    refine (namedGraph_any j hj m hm1 (by omega) w3).mono ?_
    rintro e w4 ⟨A, d, Q, rfl, hq, ho, hb⟩
    have hs3 := hg3.size
    try simp only [World.size_alloc] at hs3
    have hs4 := hb.size
    have hU2 : Up w2 (w2.alloc (.cells #[.string ⟨#[112, 97, 116, 104]⟩, .string ⟨#[99, 121, 99, 108, 101]⟩, .string ⟨#[99, 111, 109, 112, 108, 101, 116, 101]⟩, .string ⟨#[115, 116, 97, 114]⟩, .string ⟨#[119, 104, 101, 101, 108]⟩] 9)) := by go_grown
    have hU4 : Up w4 (w4.alloc (.cells #[.int .i64 (m : Nat), .slice (some ⟨A, 0, none⟩) m d] 29)) := by go_grown
    have I : GS w g B n c bs w.heap.size w4.heap.size m (w4.alloc (.cells #[.int .i64 (m : Nat), .slice (some ⟨A, 0, none⟩) m d] 29)) A d Q :=
      ⟨((hC3.up hb).up hU4), (((hR2.up hU2).grown hg3 (fun e => by injection e with e; omega)).up hb).up hU4, Blk.new _ _ _, (ho.more (by omega)).up hU4, hq, gb_up (gb_up (gb_trans (gb_up hG2 hU2) hg3) hb) hU4, hlow, Nat.le_refl _, by omega, by omega⟩
    clear hU2 hU4 hC3 hR2 hG2 hS' hb ho hg3 hC2 hs4 hs3 hsz2
    go_wp2_with fail
    generalize w4.alloc (.cells #[.int .i64 (m : Nat), .slice (some ⟨A, 0, none⟩) m d] 29) = w5 at I ⊢
    obtain ⟨gb, hgb⟩ : ∃ gb, gb = w4.heap.size := ⟨_, rfl⟩
    obtain ⟨gr, hgr⟩ : ∃ gr, gr = w.heap.size := ⟨_, rfl⟩
    rw [← hgb] at I ⊢
    have I' : GS w g B n c bs gr gb m w5 A d Q := by rw [hgr]; exact I
    rw [← hgr]
    clear I hgb hgr
    have I := I'
    clear I'
    refine (l1Below_any I.cur m hm1 (by omega)).mono ?_
    rintro e w6 ⟨v, rfl, ⟨x1, rfl, hx1⟩, hC6, hg6⟩
    replace I := I.dr hC6 hg6
    clear hC6 hg6
    go_wp2_with fail
    refine (l1Below_any I.cur m hm1 (by omega)).mono ?_
    rintro e w7 ⟨v, rfl, ⟨x2, rfl, hx2⟩, hC7, hg7⟩
    replace I := I.dr hC7 hg7
    clear hC7 hg7
    go_wp2_with fail
    refine (l1Once_any I.cur 2 (by omega) (by omega)).mono ?_
    rintro e w8 ⟨v, rfl, ⟨b, rfl⟩, hC8, hg8⟩
    replace I := I.dr hC8 hg8
    clear hC8 hg8
    have fin : ∀ (A d : Nat) (Q : List Nat) (wr : World), GS w g B n c bs gr gb m wr A d Q → isGraphV w.heap.size m (.agg #[.int .i64 (m : Nat), .slice (some ⟨A, 0, none⟩) m d]) ((wr.setCell ⟨gr, 0, none⟩ (.int .i64 (m : Nat))).setCell ⟨gr, 1, none⟩ (.slice (some ⟨A, 0, none⟩) m d)) ∧ Cur ((wr.setCell ⟨gr, 0, none⟩ (.int .i64 (m : Nat))).setCell ⟨gr, 1, none⟩ (.slice (some ⟨A, 0, none⟩) m d)) g B n c bs ∧ w.grownBy ((wr.setCell ⟨gr, 0, none⟩ (.int .i64 (m : Nat))).setCell ⟨gr, 1, none⟩ (.slice (some ⟨A, 0, none⟩) m d)) (some g) ∧ (((wr.setCell ⟨gr, 0, none⟩ (.int .i64 (m : Nat))).setCell ⟨gr, 1, none⟩ (.slice (some ⟨A, 0, none⟩) m d)).cell? ⟨gr, 0, none⟩ = some (.int .i64 (m : Nat)) ∧ ((wr.setCell ⟨gr, 0, none⟩ (.int .i64 (m : Nat))).setCell ⟨gr, 1, none⟩ (.slice (some ⟨A, 0, none⟩) m d)).cell? ⟨gr, 1, none⟩ = some (.slice (some ⟨A, 0, none⟩) m d)) := fun A d Q wr I => by
      have hgr := I.hgr
      have hlow := I.low
      have hfin := ((I.res.set_ 0 (.int .i64 (m : Nat))).set_ 1 (.slice (some ⟨A, 0, none⟩) m d)).two
      have o2 := (I.own.other_store (i := 0) I.res (by decide) (.int .i64 (m : Nat))).other_store (i := 1) (I.res.set_ 0 (.int .i64 (m : Nat))) (by decide) (.slice (some ⟨A, 0, none⟩) m d)
      have hC2 := (I.cur.set (p := ⟨gr, 0, none⟩) (by show g < gr; omega) (.int .i64 (m : Nat))).set (p := ⟨gr, 1, none⟩) (by show g < gr; omega) (.slice (some ⟨A, 0, none⟩) m d)
      have hg2 := gb_set (gb_set I.gby (p := ⟨gr, 0, none⟩) hgr (.int .i64 (m : Nat))) (p := ⟨gr, 1, none⟩) hgr (.slice (some ⟨A, 0, none⟩) m d)
      exact ⟨⟨A, d, Q, rfl, I.ok, o2⟩, hC2, hg2, hfin⟩
    cases b
    · have hyr := I.res.two
      have hy := I.box.two
      have hfz := I.res.frozen
      have hf0 := hfz 0
      have hf1 := hfz 1
      clear hfz
      have fin' := fin A d Q w8 I
      clear fin I
      go_wp2
      generalize (w8.setCell ⟨gr, 0, none⟩ (.int .i64 (m : Nat))).setCell ⟨gr, 1, none⟩ (.slice (some ⟨A, 0, none⟩) m d) = Wf at fin' ⊢
      obtain ⟨f1, f2, f3, hfin⟩ := fin'
      refine bodyPost_ret (v := .agg #[.int .i64 (m : Nat), .slice (some ⟨A, 0, none⟩) m d]) ?_ rfl ?_
      · simp [results, Tryz.results146, go_sem, hfin]
      exact ⟨_, rfl, ⟨m, hm1, hm6, f1⟩, f2, f3⟩
    · have hy := I.box.two
      have hfz := I.box.frozen
      have hf0 := hfz 0
      have hf1 := hfz 1
      clear hfz
      go_wp2_with fail
      refine (addEdge_graph ⟨A, 0, none⟩ m d x1 x2 Q w8 I.own.ri I.ok hx1 hx2).mono ?_
      rintro e w9 ⟨A', d', Q', b', rfl, hq', ho', hb'⟩
      have I3 := I.put hb' ho' hq'
      have I2 := I.up hb'
      clear hy hf0 hf1 I ho'
      have hy := I2.box.two
      have hfz := I2.box.frozen
      have hf0 := hfz 0
      have hf1 := hfz 1
      clear hfz
      have hyr := I2.res.two
      have hfy := I2.res.frozen
      have hg0 := hfy 0
      have hg1 := hfy 1
      have hne := I2.ne
      have hne2 := Ne.symm I2.ne
      clear hfy
      have fin' := fin A' d' Q' _ I3
      clear fin I2 I3
      go_wp2
      generalize (((w9.setCell ⟨gb, 0, none⟩ (.int .i64 (m : Nat))).setCell ⟨gb, 1, none⟩ (.slice (some ⟨A', 0, none⟩) m d')).setCell ⟨gr, 0, none⟩ (.int .i64 (m : Nat))).setCell ⟨gr, 1, none⟩ (.slice (some ⟨A', 0, none⟩) m d') = Wf at fin' ⊢
      obtain ⟨f1, f2, f3, hfin⟩ := fin'
      refine bodyPost_ret (v := .agg #[.int .i64 (m : Nat), .slice (some ⟨A', 0, none⟩) m d']) ?_ rfl ?_
      · simp [results, Tryz.results146, go_sem, hfin]
      exact ⟨_, rfl, ⟨m, hm1, hm6, f1⟩, f2, f3⟩
  · have hyb : ((y : Int) == 0) = false := by rw [beq_eq_false_iff_ne]; omega
    have key : ∀ (v : Value) (w3 : World), isGraphV w2.heap.size m v w3 → Cur w3 g B n c bs → w2.grownBy w3 (some g) → ∃ (A d : Nat) (Q : List Nat), v = .agg #[.int .i64 (m : Nat), .slice (some ⟨A, 0, none⟩) m d] ∧ Blk w3 w.heap.size 29 #[.int .i64 0, .slice none 0 0] ∧ GOk m Q ∧ OwnI w3 w.heap.size (some ⟨A, 0, none⟩) m d (ints Q) ∧ Cur w3 g B n c bs ∧ w.grownBy w3 (some g) := fun v w3 hv hC3 hg3 => by
      obtain ⟨A, d, Q, rfl, hq, ho⟩ := hv
      exact ⟨A, d, Q, rfl, hR2.grown hg3 (fun e => by injection e with e; omega), hq, ho.more (by omega), hC3, gb_trans hG2 hg3⟩
    have fin : ∀ (A d : Nat) (Q : List Nat) (wr : World), Blk wr w.heap.size 29 #[.int .i64 0, .slice none 0 0] → GOk m Q → OwnI wr w.heap.size (some ⟨A, 0, none⟩) m d (ints Q) → Cur wr g B n c bs → w.grownBy wr (some g) → isGraphV w.heap.size m (.agg #[.int .i64 (m : Nat), .slice (some ⟨A, 0, none⟩) m d]) ((wr.setCell ⟨w.heap.size, 0, none⟩ (.int .i64 (m : Nat))).setCell ⟨w.heap.size, 1, none⟩ (.slice (some ⟨A, 0, none⟩) m d)) ∧ Cur ((wr.setCell ⟨w.heap.size, 0, none⟩ (.int .i64 (m : Nat))).setCell ⟨w.heap.size, 1, none⟩ (.slice (some ⟨A, 0, none⟩) m d)) g B n c bs ∧ w.grownBy ((wr.setCell ⟨w.heap.size, 0, none⟩ (.int .i64 (m : Nat))).setCell ⟨w.heap.size, 1, none⟩ (.slice (some ⟨A, 0, none⟩) m d)) (some g) ∧ (((wr.setCell ⟨w.heap.size, 0, none⟩ (.int .i64 (m : Nat))).setCell ⟨w.heap.size, 1, none⟩ (.slice (some ⟨A, 0, none⟩) m d)).cell? ⟨w.heap.size, 0, none⟩ = some (.int .i64 (m : Nat)) ∧ ((wr.setCell ⟨w.heap.size, 0, none⟩ (.int .i64 (m : Nat))).setCell ⟨w.heap.size, 1, none⟩ (.slice (some ⟨A, 0, none⟩) m d)).cell? ⟨w.heap.size, 1, none⟩ = some (.slice (some ⟨A, 0, none⟩) m d)) := fun A d Q wr hR hq ho hC hg => by
      have hfin := ((hR.set_ 0 (.int .i64 (m : Nat))).set_ 1 (.slice (some ⟨A, 0, none⟩) m d)).two
      have o2 := (ho.other_store (i := 0) hR (by decide) (.int .i64 (m : Nat))).other_store (i := 1) (hR.set_ 0 (.int .i64 (m : Nat))) (by decide) (.slice (some ⟨A, 0, none⟩) m d)
      have hC2 := (hC.set (p := ⟨w.heap.size, 0, none⟩) (by show g < w.heap.size; omega) (.int .i64 (m : Nat))).set (p := ⟨w.heap.size, 1, none⟩) (by show g < w.heap.size; omega) (.slice (some ⟨A, 0, none⟩) m d)
      have hg2 := gb_set (gb_set hg (p := ⟨w.heap.size, 0, none⟩) (Nat.le_refl _) (.int .i64 (m : Nat))) (p := ⟨w.heap.size, 1, none⟩) (Nat.le_refl _) (.slice (some ⟨A, 0, none⟩) m d)
      exact ⟨⟨A, d, Q, rfl, hq, o2⟩, hC2, hg2, hfin⟩
    by_cases hy1 : y = 1
    · subst hy1
      go_wp2_with fail
      refine (l2Random_any hC2 m hm1 (by omega) 7).mono ?_
      rintro e w3 ⟨v, rfl, hv, hC3, hg3⟩
      obtain ⟨A, d, Q, rfl, hR3, hq, ho, hC3', hg3'⟩ := key v w3 hv hC3 hg3
      have hyr := hR3.two
      have hf0 := hR3.frozen 0
      have hf1 := hR3.frozen 1
      have fin' := fin A d Q w3 hR3 hq ho hC3' hg3'
      clear fin key hR2 hG2 hC2 hv hC3 hg3 hR3 hq ho hC3' hg3'
      go_wp2
      generalize (w3.setCell ⟨w.heap.size, 0, none⟩ (.int .i64 (m : Nat))).setCell ⟨w.heap.size, 1, none⟩ (.slice (some ⟨A, 0, none⟩) m d) = Wf at fin' ⊢
      obtain ⟨f1, f2, f3, hfin⟩ := fin'
      refine bodyPost_ret (v := .agg #[.int .i64 (m : Nat), .slice (some ⟨A, 0, none⟩) m d]) ?_ rfl ?_
      · simp [results, Tryz.results146, go_sem, hfin]
      exact ⟨_, rfl, ⟨m, hm1, hm6, f1⟩, f2, f3⟩
    · have hyb1 : ((y : Int) == 1) = false := by rw [beq_eq_false_iff_ne]; omega
      go_wp2_with fail
      refine (l2Random_any hC2 m hm1 (by omega) 4).mono ?_
      rintro e w3 ⟨v, rfl, hv, hC3, hg3⟩
      obtain ⟨A, d, Q, rfl, hR3, hq, ho, hC3', hg3'⟩ := key v w3 hv hC3 hg3
      have hyr := hR3.two
      have hf0 := hR3.frozen 0
      have hf1 := hR3.frozen 1
      have fin' := fin A d Q w3 hR3 hq ho hC3' hg3'
      clear fin key hR2 hG2 hC2 hv hC3 hg3 hR3 hq ho hC3' hg3'
      go_wp2
      generalize (w3.setCell ⟨w.heap.size, 0, none⟩ (.int .i64 (m : Nat))).setCell ⟨w.heap.size, 1, none⟩ (.slice (some ⟨A, 0, none⟩) m d) = Wf at fin' ⊢
      obtain ⟨f1, f2, f3, hfin⟩ := fin'
      refine bodyPost_ret (v := .agg #[.int .i64 (m : Nat), .slice (some ⟨A, 0, none⟩) m d]) ?_ rfl ?_
      · simp [results, Tryz.results146, go_sem, hfin]
      exact ⟨_, rfl, ⟨m, hm1, hm6, f1⟩, f2, f3⟩
end Go.Proofs.YthncdjcmlpiebaaGreatDoor
namespace Go.Proofs.YthncdjcmlpiebaaGreatDoor
open Go.RowKit
/-- A graph, or what looks like one: its rows are of the call's own. -/
def Gv (P : Int → List Int → Prop) (base : Nat) (v : Value) (w' : World) : Prop := ∃ N A m d X, v = .agg #[.int .i64 N, .slice A m d] ∧ OwnI w' base A m d X ∧ P N X
/-- At most six rows. -/
def le6 (_ : Int) (X : List Int) : Prop := X.length ≤ 6
set_option maxRecDepth 100000 in
/-- A graph's fields put into a box. -/
theorem putG {w wr : World} {g n c base gr m d : Nat} {B : Option Addr} {bs : List Int} {x y : Value} {N : Int} {A : Option Addr} {X : List Int} (hr : Blk wr gr 29 #[x, y]) (ho : OwnI wr base A m d X) (hC : Cur wr g B n c bs) (hg : w.grownBy wr (some g)) (hgr : w.heap.size ≤ gr) (hlow : g < w.heap.size) :
    OwnI ((wr.setCell ⟨gr, 0, none⟩ (.int .i64 N)).setCell ⟨gr, 1, none⟩ (.slice A m d)) base A m d X ∧ Blk ((wr.setCell ⟨gr, 0, none⟩ (.int .i64 N)).setCell ⟨gr, 1, none⟩ (.slice A m d)) gr 29 #[.int .i64 N, .slice A m d] ∧ Cur ((wr.setCell ⟨gr, 0, none⟩ (.int .i64 N)).setCell ⟨gr, 1, none⟩ (.slice A m d)) g B n c bs ∧ w.grownBy ((wr.setCell ⟨gr, 0, none⟩ (.int .i64 N)).setCell ⟨gr, 1, none⟩ (.slice A m d)) (some g) :=
  ⟨(ho.other_store (i := 0) hr (by decide) _).other_store (i := 1) (hr.set_ 0 _) (by decide) _, (hr.set_ 0 _).set_ 1 _,
    (hC.set (p := ⟨gr, 0, none⟩) (by show g < gr; omega) _).set (p := ⟨gr, 1, none⟩) (by show g < gr; omega) _, gb_set (gb_set hg (p := ⟨gr, 0, none⟩) hgr _) (p := ⟨gr, 1, none⟩) hgr _⟩
set_option maxRecDepth 100000 in
set_option maxHeartbeats 2000000 in
theorem l2Any_any {g : Nat} {B : Option Addr} {n c : Nat} {bs : List Int} {w : World} (hC : Cur w g B n c bs) :
    Calls Tryz.prog 126 #[.pointer (some ⟨g, 0, none⟩)] w (Dr g B n c bs w fun v w' => Gv le6 w.heap.size v w') := by
  have hlow := hC.lt
  have hU0 : Up w (w.alloc (.cells #[.int .i64 0, .slice none 0 0] 29)) := by go_grown
  have hR0 := Blk.new w 29 #[.int .i64 0, .slice none 0 0]
  have hC0 := hC.up hU0
  have hg0 := gb_of_up (some g) hU0
  obtain ⟨gr, hgr⟩ : ∃ gr, gr = w.heap.size := ⟨_, rfl⟩
  go_enter Tryz.func126, Tryz.ntmps126
  go_wp2_with fail
  refine (l2Draw_any hC0).mono ?_
  rintro e w1 ⟨v, rfl, ⟨m, hm1, hm6, A, d, Q, rfl, hq, ho⟩, hC1, hg1⟩
  have hs1 := hg1.size
  try simp only [World.size_alloc] at hs1
  have hR1 := hR0.grown hg1 (fun e => by injection e with e; omega)
  have hG1 := gb_trans hg0 hg1
  have hU1 : Up w1 (w1.alloc (.cells #[.int .i64 (m : Nat), .slice (some ⟨A, 0, none⟩) m d] 29)) := by go_grown
  have hB2 := Blk.new w1 29 #[.int .i64 (m : Nat), .slice (some ⟨A, 0, none⟩) m d]
  have hR2 := hR1.up hU1
  have hC2 := hC1.up hU1
  have hG2 := gb_up hG1 hU1
  have ho2 := (ho.more (base' := w.heap.size) (by simp)).up hU1
  obtain ⟨gb, hgb⟩ : ∃ gb, gb = w1.heap.size := ⟨_, rfl⟩
  rw [← hgr] at hR2 ⊢
  rw [← hgb] at hB2
  clear hR0 hC0 hg0 hg1 hU0 hR1 hC1 hG1 ho hC
  go_wp2_with fail
  generalize w1.alloc (.cells #[.int .i64 (m : Nat), .slice (some ⟨A, 0, none⟩) m d] 29) = w2 at hB2 hR2 hC2 hG2 ho2 ⊢
  rw [← hgb, ← hgr]
  have hgrb : gr ≠ gb := by omega
  have hgb' : w.heap.size ≤ gb := by omega
  clear hU1 hgb
  refine (l1Below_any hC2 18 (by omega) (by omega)).mono ?_
  rintro e w3 ⟨v, rfl, ⟨x, rfl, hx⟩, hC3, hg3⟩
  have hR3 := hR2.grown hg3 (fun e => by injection e with e; omega)
  have hB3 := hB2.grown hg3 (fun e => by injection e with e; omega)
  have hG3 := gb_trans hG2 hg3
  have ho3 := ho2.far_gb hg3 hlow
  clear hR2 hB2 hC2 hG2 ho2 hg3
  -- what comes at the end: the box is loaded, the result put
  have fin : ∀ (N : Int) (X : List Int) (wr : World), Blk wr gr 29 #[.int .i64 0, .slice none 0 0] → OwnI wr w.heap.size (some ⟨A, 0, none⟩) m d X → Cur wr g B n c bs → w.grownBy wr (some g) →
      Dr g B n c bs w (fun v w' => Gv le6 w.heap.size v w') (.returned (.agg #[.int .i64 N, .slice (some ⟨A, 0, none⟩) m d])) ((wr.setCell ⟨gr, 0, none⟩ (.int .i64 N)).setCell ⟨gr, 1, none⟩ (.slice (some ⟨A, 0, none⟩) m d)) ∧
      (((wr.setCell ⟨gr, 0, none⟩ (.int .i64 N)).setCell ⟨gr, 1, none⟩ (.slice (some ⟨A, 0, none⟩) m d)).cell? ⟨gr, 0, none⟩ = some (.int .i64 N) ∧ ((wr.setCell ⟨gr, 0, none⟩ (.int .i64 N)).setCell ⟨gr, 1, none⟩ (.slice (some ⟨A, 0, none⟩) m d)).cell? ⟨gr, 1, none⟩ = some (.slice (some ⟨A, 0, none⟩) m d)) := fun N X wr hR ho hC hG => by
    obtain ⟨h1, h2, h3, h4⟩ := putG (N := N) hR ho hC hG (Nat.le_of_eq hgr.symm) hlow
    exact ⟨⟨_, rfl, ⟨N, _, m, d, X, rfl, h1, (by show X.length ≤ 6; rw [h1.len]; exact hm6)⟩, h3, h4⟩, h2.two⟩
  have hsz3 := hG3.size
  have hgr' : w.heap.size ≤ gr := by omega
  clear hgr
  by_cases hx0 : x = 0
  · subst hx0
    have hU4 : Up w3 (w3.alloc (.cells #[.int .i64 0, .int .i64 (-1), .int .i64 8, .int .i64 3] 3)) := by go_grown
    have hX4 : RI (w3.alloc (.cells #[.int .i64 0, .int .i64 (-1), .int .i64 8, .int .i64 3] 3)) (some ⟨w3.heap.size, 0, none⟩) 4 [0, -1, 8, 3] := Blk.ri (Blk.new w3 3 _) rfl
    have hgs3 := hC3.lt
    go_wp2_with fail
    refine (l1PickInt_any (hC3.up hU4) hX4 (fun ad e => by injection e with e; subst e; show w3.heap.size ≠ g; omega) (by omega) (by omega)).mono ?_
    rintro e w4 ⟨v, rfl, ⟨j, hj, rfl⟩, hC4, hg4⟩
    obtain ⟨z, hz⟩ : ∃ z, z = ([0, -1, 8, 3] : List Int).getD j 0 := ⟨_, rfl⟩
    rw [← hz]
    clear hz
    have hR4 := (hR3.up hU4).grown hg4 (fun e => by injection e with e; omega)
    have hB4 := (hB3.up hU4).grown hg4 (fun e => by injection e with e; omega)
    have hG4 := gb_trans (gb_up hG3 hU4) hg4
    have ho4 := (ho3.up hU4).far_gb hg4 hlow
    have hy := hB4.two
    have hyr := hR4.two
    have f0 := hB4.frozen 0
    have f1 := hR4.frozen 0
    have f2 := hR4.frozen 1
    have hR5 := hR4.far (p := ⟨gb, 0, none⟩) hgrb (.int .i64 z)
    have hB5 := hB4.set_ 0 (.int .i64 z)
    have hC5 := hC4.set (p := ⟨gb, 0, none⟩) (by show g < gb; omega) (.int .i64 z)
    have hG5 := gb_set hG4 (p := ⟨gb, 0, none⟩) hgb' (.int .i64 z)
    have ho5 := ho4.other_store (i := 0) hB4 (by decide) (.int .i64 z)
    have fin' := fin z (ints Q) _ hR5 ho5 hC5 hG5
    have hgrb2 := Ne.symm hgrb
    clear fin hU4 hX4 hR5 hB5 hC5 hG5 ho5 hR4 hB4 hG4 ho4 hC4 hg4 hR3 hB3 hC3 hG3 ho3
    go_wp2
    generalize ((w4.setCell ⟨gb, 0, none⟩ (.int .i64 z)).setCell ⟨gr, 0, none⟩ (.int .i64 z)).setCell ⟨gr, 1, none⟩ (.slice (some ⟨A, 0, none⟩) m d) = Wf at fin' ⊢
    obtain ⟨f1, hfin⟩ := fin'
    refine bodyPost_ret (v := .agg #[.int .i64 z, .slice (some ⟨A, 0, none⟩) m d]) ?_ rfl ?_
    · simp [results, Tryz.results126, go_sem, hfin]
    exact f1
  · have hxb : ((x : Int) == 0) = false := by rw [beq_eq_false_iff_ne]; omega
    by_cases hx1 : x = 1
    · subst hx1
      have hy := hB3.two
      have hgs3 := hC3.lt
      go_wp2_with fail
      have hU4 : Up w3 (w3.alloc (.cells #[.int .i64 (-1), .int .i64 1, .int .i64 2, .int .i64 128, .int .i64 9223372036854775807] 3)).drew := Below.drew (by go_grown)
      have hX4 : RI (w3.alloc (.cells #[.int .i64 (-1), .int .i64 1, .int .i64 2, .int .i64 128, .int .i64 9223372036854775807] 3)).drew (some ⟨w3.heap.size, 0, none⟩) 5 [-1, 1, 2, 128, 9223372036854775807] := RI.drew (Blk.ri (Blk.new w3 3 _) rfl)
      have hA0 : A ≠ gb := fun e => own_blk_ne ho3 hB3 (by decide) (by rw [e]; rfl)
      have hA1 : A ≠ gr := fun e => own_blk_ne ho3 hR3 (by decide) (by rw [e]; rfl)
      have hAw : w.heap.size ≤ A := (ho3.block A rfl).1
      have hm0 : 0 < m := hm1
      have hlb := hB3.lt
      go_region_with (refine (l1PickInt_any (hC3.up hU4) hX4 (fun ad e => by injection e with e; subst e; show w3.heap.size ≠ g; omega) (by omega) (by omega)).mono ?_; rintro e w4 ⟨v, rfl, ⟨j, hj, rfl⟩, hC4, hg4⟩; obtain ⟨z, hz⟩ : ∃ z, z = ([-1, 1, 2, 128, 9223372036854775807] : List Int).getD j 0 := ⟨_, rfl⟩; rw [← hz]; clear hz hj; have hB4 := (hB3.up hU4).grown hg4 (fun e => by injection e with e; omega); have ho4 := (ho3.up hU4).far_gb hg4 hlow; have hy4 := hB4.two; have hc4 := ho4.nat hm0; have hf4 := ho4.frz 0)
      all_goals
        have hR4 := (hR3.up hU4).grown hg4 (fun e => by injection e with e; omega)
        have hG4 := gb_trans (gb_up hG3 hU4) hg4
        have hR5 := hR4.far (p := ⟨A, 0, none⟩) (fun e => hA1 e.symm) (.int .i64 z)
        have hB5 := hB4.far (p := ⟨A, 0, none⟩) (fun e => hA0 e.symm) (.int .i64 z)
        have hC5 := hC4.set (p := ⟨A, 0, none⟩) (by show g < A; omega) (.int .i64 z)
        have hG5 := gb_set hG4 (p := ⟨A, 0, none⟩) hAw (.int .i64 z)
        have ho5 := (ho4.put 0 z).1
        clear hR3 hB3 hC3 hG3 ho3 hU4 hX4 hR4 hG4 hB4 ho4 hC4 hy hg4 hy4 hc4 hf4
        generalize w4.setCell ⟨A, 0, none⟩ (.int .i64 z) = w5 at hR5 hB5 hC5 hG5 ho5 ⊢
        have hy5 := hB5.two
        have hf0 := hR5.frozen 0
        have hf1 := hR5.frozen 1
        have hyr := hR5.two
        have fin' := fin (m : Nat) _ _ hR5 ho5 hC5 hG5
        clear fin hR5 hB5 hC5 hG5 ho5
        go_wp2
        generalize (w5.setCell ⟨gr, 0, none⟩ (.int .i64 (m : Nat))).setCell ⟨gr, 1, none⟩ (.slice (some ⟨A, 0, none⟩) m d) = Wf at fin' ⊢
        obtain ⟨f1, hfin⟩ := fin'
        refine bodyPost_ret (v := .agg #[.int .i64 (m : Nat), .slice (some ⟨A, 0, none⟩) m d]) ?_ rfl ?_
        · simp [results, Tryz.results126, go_sem, hfin]
        exact f1
    · have hxb1 : ((x : Int) == 1) = false := by rw [beq_eq_false_iff_ne]; omega
      have hy5 := hB3.two
      have hf0 := hR3.frozen 0
      have hf1 := hR3.frozen 1
      have hyr := hR3.two
      have fin' := fin (m : Nat) _ _ hR3 ho3 hC3 hG3
      clear fin hR3 hB3 hC3 hG3 ho3
      go_wp2
      generalize (w3.setCell ⟨gr, 0, none⟩ (.int .i64 (m : Nat))).setCell ⟨gr, 1, none⟩ (.slice (some ⟨A, 0, none⟩) m d) = Wf at fin' ⊢
      obtain ⟨f1, hfin⟩ := fin'
      refine bodyPost_ret (v := .agg #[.int .i64 (m : Nat), .slice (some ⟨A, 0, none⟩) m d]) ?_ rfl ?_
      · simp [results, Tryz.results126, go_sem, hfin]
      exact f1
end Go.Proofs.YthncdjcmlpiebaaGreatDoor
namespace Go.Proofs.YthncdjcmlpiebaaGreatDoor
open Go.RowKit
set_option maxRecDepth 100000 in
theorem finG {P : Int → List Int → Prop} {w wr : World} {g n c gr m d : Nat} {B : Option Addr} {bs : List Int} {x y : Value} {N : Int} {A : Option Addr} {X : List Int} (hr : Blk wr gr 29 #[x, y]) (ho : OwnI wr w.heap.size A m d X) (hP : P N X) (hC : Cur wr g B n c bs) (hg : w.grownBy wr (some g)) (hgr : w.heap.size ≤ gr) (hlow : g < w.heap.size) :
    Dr g B n c bs w (fun v w' => Gv P w.heap.size v w') (.returned (.agg #[.int .i64 N, .slice A m d])) ((wr.setCell ⟨gr, 0, none⟩ (.int .i64 N)).setCell ⟨gr, 1, none⟩ (.slice A m d)) ∧
      (((wr.setCell ⟨gr, 0, none⟩ (.int .i64 N)).setCell ⟨gr, 1, none⟩ (.slice A m d)).cell? ⟨gr, 0, none⟩ = some (.int .i64 N) ∧ ((wr.setCell ⟨gr, 0, none⟩ (.int .i64 N)).setCell ⟨gr, 1, none⟩ (.slice A m d)).cell? ⟨gr, 1, none⟩ = some (.slice A m d)) := by
  obtain ⟨h1, h2, h3, h4⟩ := putG (N := N) hr ho hC hg hgr hlow
  exact ⟨⟨_, rfl, ⟨N, _, m, d, X, rfl, h1, hP⟩, h3, h4⟩, h2.two⟩
end Go.Proofs.YthncdjcmlpiebaaGreatDoor
namespace Go.Proofs.YthncdjcmlpiebaaGreatDoor
open Go.RowKit
set_option maxRecDepth 100000 in
theorem l1Below_int {g : Nat} {B : Option Addr} {n c : Nat} {bs : List Int} {w : World} (hC : Cur w g B n c bs) (z : Int) (h0 : 1 ≤ z) (hm : z ≤ 256) :
    Calls Tryz.prog 77 #[.pointer (some ⟨g, 0, none⟩), .int .i64 z] w (Dr g B n c bs w fun v _ => ∃ x : Nat, v = .int .i64 x ∧ (x : Int) < z) := by
  obtain ⟨m, rfl⟩ : ∃ m : Nat, z = m := ⟨z.toNat, by omega⟩
  refine (l1Below_any hC m (by omega) (by omega)).mono ?_
  rintro e w' ⟨v, rfl, ⟨x, rfl, hx⟩, h1, h2⟩
  exact ⟨_, rfl, ⟨x, rfl, by omega⟩, h1, h2⟩
end Go.Proofs.YthncdjcmlpiebaaGreatDoor
namespace Go.Proofs.YthncdjcmlpiebaaGreatDoor
open Go.RowKit
end Go.Proofs.YthncdjcmlpiebaaGreatDoor
namespace Go.Proofs.YthncdjcmlpiebaaGreatDoor
open Go.RowKit
set_option maxRecDepth 100000 in
theorem lit_own {w : World} {g : Nat} (h : w.heap.size = g) {base : Nat} (hb : base ≤ g) (x : Int) : OwnI (w.alloc (.cells #[.int .i64 x] 3)) base (some ⟨g, 0, none⟩) 1 1 [x] := (OwnI.of_blk (L := [x]) (Blk.new_at h) rfl (by simp)).more hb
end Go.Proofs.YthncdjcmlpiebaaGreatDoor
namespace Go.Proofs.YthncdjcmlpiebaaGreatDoor
open Go.RowKit
set_option maxRecDepth 100000 in
set_option maxHeartbeats 1000000 in
theorem l5Label_any (A : Option Addr) (bd : Addr) (n c d v : Nat) (Q l : List Nat) (w : World) (hX : RI w A n (ints Q)) (hL : RI w (some bd) l.length (ints l)) (h : GOk n Q) (hv : v < n) (hl : ∀ x ∈ l, x < n) (hl7 : l.length ≤ 7) :
    Calls Tryz.prog 147 #[.agg #[.int .i64 n, .slice A n c], .slice (some bd) l.length d, .int .i64 v] w fun e w' => e = .returned (.int .i64 (labK Q l v 7 : Nat)) ∧ Below w.heap.size w w' := by
  have hU : Up w (w.alloc (.cells #[.int .i64 n, .slice A n c] 29)) := by go_grown
  have hbk := Blk.new w 29 #[.int .i64 n, .slice A n c]
  have Hlt := Lib.hid fun k => labK_lt Q l v k
  have Hat := Lib.hid fun k (hk : k < l.length) => hl _ (nb_mem hk)
  obtain ⟨W, hW⟩ : ∃ W, W = w.alloc (.cells #[.int .i64 n, .slice A n c] 29) := ⟨_, rfl⟩
  rw [← hW] at hU hbk
  go_enter Tryz.func147, Tryz.ntmps147
  go_wp2_with fail
  rw [← hW]
  clear hW
  have hXW := hX.up hU
  have hLW := hL.up hU
  go_loopw [7, 8] (fun x s wr => ∃ i : Nat, i ≤ 7 ∧ s = .int .i64 i ∧ x = .int .i64 (labK Q l v i : Nat) ∧ Up W wr) (fun _ s _ => 7 - (intOf s).toNat)
  case atStart => exact ⟨0, Nat.zero_le _, rfl, rfl, Up.refl _⟩
  case round =>
    obtain ⟨i, hi, rfl, rfl, hb⟩ := hrel
    obtain ⟨wi, rfl⟩ : ∃ wi : World, wi = wr := ⟨_, rfl⟩
    by_cases hit : i < 7
    · have hlb := Hlt.out i
      have hS := Lib.hid (show labK Q l v (i + 1) = labK Q l v i * 2 + if i < l.length ∧ edge Q (nb l i) v = true then 1 else 0 from rfl)
      have hp := Nat.pow_le_pow_right (n := 2) (by omega) (show i ≤ 7 by omega)
      obtain ⟨y, hy⟩ : ∃ y, y = labK Q l v i := ⟨_, rfl⟩
      rw [← hy] at hS hlb ⊢
      clear hy
      obtain ⟨m2, hme⟩ : ∃ m2 : Nat, m2 = y * 2 := ⟨_, rfl⟩
      have hm2 : wrap64 ((y : Int) * 2) = (m2 : Int) := by rw [IntWalk.wrap64_in _ ⟨by omega, by omega⟩]; omega
      rw [← hme] at hS
      have hm7 : m2 < 512 := by omega
      clear hme hlb hp
      have ha1 : wrap64 ((m2 : Int) + 1) = ((m2 + 1 : Nat) : Int) := by rw [IntWalk.wrap64_in _ ⟨by omega, by omega⟩]; omega
      have hyb := (hbk.up hb).two
      have hlbk := (hbk.up hb).lt
      have hXi := hXW.up hb
      have hLi := hLW.up hb
      by_cases hil : i < l.length
      · have hxn := Hat.out i hil
        have hcl := hLi.nbs hil
        have habs : bd.block < wi.heap.size := by obtain ⟨_, e, h1, _⟩ := hLi.addr (by omega); injection e with e; subst e; exact h1
        obtain ⟨x, hx⟩ : ∃ x, x = nb l i := ⟨_, rfl⟩
        rw [← hx] at hcl hS hxn
        clear hx
        rcases Bool.eq_false_or_eq_true (edge Q x v) with e1 | e1
        · have H1 := Lib.hid (show (nb Q x).testBit v = true from e1)
          rw [if_pos ⟨hil, e1⟩] at hS
          clear e1
          go_wp2
          have hV0 : Up wi wi.drew := (Up.refl _).drew
          refine wp_region_calm (S := (fun w' => Up wi w' ∧ (∀ b o, b < wi.heap.size → w'.cell? ⟨b, o, none⟩ = wi.cell? ⟨b, o, none⟩) ∧ w'.cell? (bd.add i) = some (.int .i64 x))) (by kernel_rfl) (by kernel_rfl) (by exact ⟨hV0, fun _ _ hb => hV0.cell hb, (hV0.cell (by first | assumption | (rw [block_of_add]; assumption))).trans (by assumption)⟩) ?_
          repeat (first | (refine CalmSeq.cons undef (Calm.off (by rfl)) ?_; (try simp only [Act.put, List.setIfInBounds_toArray, List.set_cons_zero, List.set_cons_succ])) | (refine CalmSeq.cons ?_ (Calm.val (by rfl) ?_) ?_; rotate_left; (intro wC hSw; (try dsimp only at hSw); go_simp; done); (try simp only [Act.put, List.setIfInBounds_toArray, List.set_cons_zero, List.set_cons_succ])) | (refine CalmSeq.cons ?_ (Calm.val (by rfl) ?_) ?_; rotate_left; (intro wC hSw; (try dsimp only at hSw); go_simp; with_reducible rfl); (try simp only [Act.put, List.setIfInBounds_toArray, List.set_cons_zero, List.set_cons_succ])) | ((refine CalmSeq.cons ?_ (Calm.call (f := ?_) (args := ?_) (by rfl) ?_ (fun wC hSw => ?_)) ?_; rotate_left 3; (intro wC; go_simp; (refine ⟨?_, ?_⟩ <;> with_reducible rfl)); (go_at_call 112; (with_reducible refine (l2Edge_is (hXi.up hSw.1) h hxn hv H1.out).mono ?_); rintro e wD ⟨rfl, hbD⟩; apply And.intro; (with_reducible rfl); (have hUD := Up.then_ hSw.1 hbD; exact ⟨hUD, fun _ _ hb => hUD.cell hb, (hUD.cell (by first | assumption | (rw [block_of_add]; assumption))).trans (by assumption)⟩))); (try simp only [Act.put, List.setIfInBounds_toArray, List.set_cons_zero, List.set_cons_succ])))
          intro w1 hS1
          have hU1 : Up wi w1 := hS1.1
          clear hS1 hV0
          go_wp2
          go_roundw
          case rel => exact ⟨i + 1, by omega, by go_num, by rw [hS.out]; first | rfl | (simp [hm2, ha1]; done), Up.then_ hb hU1⟩
          case measure => simp [intOf]; omega
        · have H1 := Lib.hid (show (nb Q x).testBit v = false from e1)
          rw [e1, if_neg (by simp)] at hS
          clear e1
          go_wp2
          have hV0 : Up wi wi.drew := (Up.refl _).drew
          refine wp_region_calm (S := (fun w' => Up wi w' ∧ (∀ b o, b < wi.heap.size → w'.cell? ⟨b, o, none⟩ = wi.cell? ⟨b, o, none⟩) ∧ w'.cell? (bd.add i) = some (.int .i64 x))) (by kernel_rfl) (by kernel_rfl) (by exact ⟨hV0, fun _ _ hb => hV0.cell hb, (hV0.cell (by first | assumption | (rw [block_of_add]; assumption))).trans (by assumption)⟩) ?_
          repeat (first | (refine CalmSeq.cons undef (Calm.off (by rfl)) ?_; (try simp only [Act.put, List.setIfInBounds_toArray, List.set_cons_zero, List.set_cons_succ])) | (refine CalmSeq.cons ?_ (Calm.val (by rfl) ?_) ?_; rotate_left; (intro wC hSw; (try dsimp only at hSw); go_simp; done); (try simp only [Act.put, List.setIfInBounds_toArray, List.set_cons_zero, List.set_cons_succ])) | (refine CalmSeq.cons ?_ (Calm.val (by rfl) ?_) ?_; rotate_left; (intro wC hSw; (try dsimp only at hSw); go_simp; with_reducible rfl); (try simp only [Act.put, List.setIfInBounds_toArray, List.set_cons_zero, List.set_cons_succ])) | ((refine CalmSeq.cons ?_ (Calm.call (f := ?_) (args := ?_) (by rfl) ?_ (fun wC hSw => ?_)) ?_; rotate_left 3; (intro wC; go_simp; (refine ⟨?_, ?_⟩ <;> with_reducible rfl)); (go_at_call 112; (with_reducible refine (l2Edge_is (hXi.up hSw.1) h hxn hv H1.out).mono ?_); rintro e wD ⟨rfl, hbD⟩; apply And.intro; (with_reducible rfl); (have hUD := Up.then_ hSw.1 hbD; exact ⟨hUD, fun _ _ hb => hUD.cell hb, (hUD.cell (by first | assumption | (rw [block_of_add]; assumption))).trans (by assumption)⟩))); (try simp only [Act.put, List.setIfInBounds_toArray, List.set_cons_zero, List.set_cons_succ])))
          intro w1 hS1
          have hU1 : Up wi w1 := hS1.1
          clear hS1 hV0
          go_wp2
          go_roundw
          case rel => exact ⟨i + 1, by omega, by go_num, by rw [hS.out]; first | rfl | (simp [hm2]; done), Up.then_ hb hU1⟩
          case measure => simp [intOf]; omega
      · rw [if_neg (fun h => hil h.1)] at hS
        go_wp2
        have hV0 : Up wi wi.drew := (Up.refl _).drew
        refine wp_region_calm (S := (fun w' => Up wi w' ∧ (∀ b o, b < wi.heap.size → w'.cell? ⟨b, o, none⟩ = wi.cell? ⟨b, o, none⟩))) (by kernel_rfl) (by kernel_rfl) (by exact ⟨hV0, fun _ _ hb => hV0.cell hb⟩) ?_
        repeat (first | (refine CalmSeq.cons undef (Calm.off (by rfl)) ?_; (try simp only [Act.put, List.setIfInBounds_toArray, List.set_cons_zero, List.set_cons_succ])) | (refine CalmSeq.cons ?_ (Calm.val (by rfl) ?_) ?_; rotate_left; (intro wC hSw; (try dsimp only at hSw); go_simp; done); (try simp only [Act.put, List.setIfInBounds_toArray, List.set_cons_zero, List.set_cons_succ])) | (refine CalmSeq.cons ?_ (Calm.val (by rfl) ?_) ?_; rotate_left; (intro wC hSw; (try dsimp only at hSw); go_simp; with_reducible rfl); (try simp only [Act.put, List.setIfInBounds_toArray, List.set_cons_zero, List.set_cons_succ])))
        intro w1 hS1
        have hU1 : Up wi w1 := hS1.1
        clear hS1 hV0
        go_wp2
        go_roundw
        case rel => exact ⟨i + 1, by omega, by go_num, by rw [hS.out]; first | rfl | (simp [hm2]; done), Up.then_ hb hU1⟩
        case measure => simp [intOf]; omega
    · obtain rfl : i = 7 := by omega
      go_wp2
      go_ret
      exact ⟨rfl, Up.then_ hU hb⟩
set_option maxRecDepth 100000 in
theorem setN_bit {n : Nat} {l : List Nat} (h : natVerts n l) (h7 : n ≤ 7) : setN l < 128 := Nat.lt_of_lt_of_le (setN_lt h.1) (Nat.pow_le_pow_right (n := 2) (by omega) h7)
set_option maxRecDepth 100000 in
theorem l5Label_is {A : Option Addr} {bd : Addr} {n c d v : Nat} {Q l : List Nat} {w : World} {z : Int} (hX : RI w A n (ints Q)) (hL : RI w (some bd) l.length (ints l)) (h : GOk n Q) (hv : v < n) (hl : ∀ x ∈ l, x < n) (hl7 : l.length ≤ 7) (hz : ((labK Q l v 7 : Nat) : Int) = z) :
    Calls Tryz.prog 147 #[.agg #[.int .i64 n, .slice A n c], .slice (some bd) l.length d, .int .i64 v] w fun e w' => e = .returned (.int .i64 z) ∧ Below w.heap.size w w' := by
  subst hz; exact l5Label_any A bd n c d v Q l w hX hL h hv hl hl7
set_option maxRecDepth 100000 in
set_option maxHeartbeats 4000000 in
theorem specLexOrder_any (N s : Int) (A : Option Addr) (n c : Nat) (X : List Int) (w : World) (hX : RI w A n X) (hn : n ≤ 9223372036854775807) :
    Calls Tryz.prog 127 #[.agg #[.int .i64 N, .slice A n c], .int .i64 s] w (GivesIB (optL (lexOf N X s)) (lexOf N X s).isSome w) := by
  have hbk := Blk.new w 29 #[.int .i64 N, .slice A n c]
  have hyb := hbk.two
  rcases lexOf_cases N X s with ⟨h0, hc⟩ | ⟨k, t, Q, rfl, rfl, rfl, h, ht⟩
  · rw [h0]
    clear h0
    rcases hc with hg | ⟨hg, hs⟩
    · have H1 := Lib.hid hg
      clear hg
      go_enter Tryz.func127, Tryz.ntmps127
      go_wp2_with fail
      refine (specIsGraph_is (hX.up (by go_grown)) hn H1.out).mono ?_
      rintro e w1 ⟨rfl, hb1⟩
      have hU1 : Up w w1 := Up.then_ (by go_grown) hb1
      have hown0 := OwnI.made (base := w1.heap.size) w1 (Nat.le_refl _)
      have hww := hU1.alloc hU1.size (.cells #[] 3)
      go_wp2
      go_ret2
      exact givesIB_none hown0 hU1.size hww
    · have H1 := Lib.hid hg
      clear hg
      rcases Int.lt_or_le s 0 with h' | h'
      · have d1 : decide (s < 0) = true := decide_eq_true h'
        clear h' hs
        go_enter Tryz.func127, Tryz.ntmps127
        go_wp2_with fail
        refine (specIsGraph_is (hX.up (by go_grown)) hn H1.out).mono ?_
        rintro e w1 ⟨rfl, hb1⟩
        have hU1 : Up w w1 := Up.then_ (by go_grown) hb1
        have hown0 := OwnI.made (base := w1.heap.size) w1 (Nat.le_refl _)
        have hww := hU1.alloc hU1.size (.cells #[] 3)
        go_wp2
        go_ret2
        exact givesIB_none hown0 hU1.size hww
      · have d1 : decide (s < 0) = false := decide_eq_false (by omega)
        have d2 : decide (N ≤ s) = true := decide_eq_true (by omega)
        clear h' hs
        go_enter Tryz.func127, Tryz.ntmps127
        go_wp2_with fail
        refine (specIsGraph_is (hX.up (by go_grown)) hn H1.out).mono ?_
        rintro e w1 ⟨rfl, hb1⟩
        have hU1 : Up w w1 := Up.then_ (by go_grown) hb1
        have hyb1 := (hbk.up hb1).two
        have hown0 := OwnI.made (base := w1.heap.size) w1 (Nat.le_refl _)
        have hww := hU1.alloc hU1.size (.cells #[] 3)
        go_wp2
        go_ret2
        exact givesIB_none hown0 hU1.size hww
  · obtain rfl : n = k := by rw [← hX.1, ints_len, h.len]
    rw [lexOf_ok h ht]
    obtain ⟨R, hRe⟩ : ∃ R, R = lexR Q n (n - 1) [t] := ⟨_, rfl⟩
    rw [← hRe]
    have HR := Lib.hid hRe.symm
    have h1 := h.pos
    have h7 := h.le
    have Hnx := Lib.hid fun l (hv : natVerts n l) (hl : l.length < n) => bestL_next Q hv hl
    have Hcmp := Lib.hid fun (l : List Nat) (hl : l.length ≤ 7) u v => labK_cmp h hl u v
    have Hone := Lib.hid (one_verts ht)
    have hsh := shl_p2 (k := t) (by omega)
    have H1 := Lib.hid h.is
    have d1 : decide ((t : Int) < 0) = false := decide_eq_false (by omega)
    have d2 : decide ((n : Int) ≤ (t : Int)) = false := decide_eq_false (by omega)
    clear hRe
    go_enter Tryz.func127, Tryz.ntmps127
    go_wp2_with fail
    refine (specIsGraph_is (hX.up (by go_grown)) hn H1.out).mono ?_
    rintro e w1 ⟨rfl, hb1⟩
    have hU1 : Up w w1 := Up.then_ (by go_grown) hb1
    replace hX := hX.up hU1
    have hbk1 := hbk.up hb1
    have hyb1 := hbk1.two
    have hzb1 := fun o => (hbk1.alloc o).two
    have hown0 := lit_own (w := w1) (g := w1.heap.size) rfl (Nat.le_refl _) (t : Int)
    have hbl0 : Below w1.heap.size w1 (w1.alloc (.cells #[.int .i64 (t : Int)] 3)) := by go_grown
    clear hyb hbk
    have hs0 : setN [t] = p2 t := by show setZ [(t : Int)] = _; simp [setZ, p2]
    have HS0 := Lib.hid hs0
    clear hs0
    go_wp2_with fail
    have d2n : decide (n ≤ t) = false := decide_eq_false (by omega)
    rw [d2n, hsh]
    clear hyb1 hzb1 d1 d2 d2n hsh
    go_loopg [6, 7] (n - 1) (fun g v u wr => ∃ (l : List Nat) (A' : Option Addr) (c' : Nat), v = .slice A' l.length c' ∧ u = .int .i64 (setN l : Nat) ∧ OwnI wr w1.heap.size A' l.length c' (ints l) ∧ Below w1.heap.size w1 wr ∧ l.length + g = n ∧ 0 < l.length ∧ Hid (natVerts n l ∧ lexR Q n g l = R))
    case atStart => exact ⟨[t], _, _, rfl, by rw [HS0.out], hown0, hbl0, by simp; omega, by simp, Hone.out, HR.out⟩
    case round =>
      clear hown0 hbl0
      obtain ⟨l, A', c', rfl, rfl, hown, hb, hln, hlp, hlx⟩ := hrel
      obtain ⟨wo, rfl⟩ : ∃ wo : World, wo = wr := ⟨_, rfl⟩
      have hbo := hbk1.up hb
      have hyo := hbo.two
      have hU128 := setN_bit hlx.out.1 h7
      by_cases hlt : l.length < n
      · have hlv := Lib.hid hlx.out.1.1
        have HNx := Lib.hid (Hnx.out l hlx.out.1 hlt)
        have HLx := Lib.hid hlx.out.2
        have hl7 : l.length ≤ 7 := by omega
        have hXo := hX.up hb
        have hLo := hown.ri
        have HB := Lib.hid fun k => testBit_setN l k
        have HC := Lib.hid (Hcmp.out l hl7)
        have Hadd := Lib.hid fun b (hb : b ∉ l) => setN_add (l := l) (v := b) hb
        obtain ⟨U, hUe⟩ : ∃ U, U = setN l := ⟨_, rfl⟩
        rw [← hUe] at hU128 HB Hadd ⊢
        clear hlx hUe
        obtain ⟨bd, rfl, _, _⟩ := hLo.addr hlp
        go_wp2_with fail
        go_loopw [8, 9] (fun b s wr => ∃ k : Nat, k ≤ n ∧ s = .int .i64 k ∧ b = .int .i64 (bestL Q l k) ∧ Up wo wr) (fun _ s _ => n - (intOf s).toNat)
        case atStart => exact ⟨0, Nat.zero_le _, rfl, rfl, Up.refl _⟩
        case round =>
          obtain ⟨k, hk, rfl, rfl, hbk⟩ := hrel
          obtain ⟨wi, rfl⟩ : ∃ wi : World, wi = wr := ⟨_, rfl⟩
          have hbi := hbo.up hbk
          have hyi := hbi.two
          have hli := hbi.lt
          by_cases hkn : k < n
          · have hbit := bit_zero U k (by omega)
            have hkb := HB.out k
            rcases Bool.eq_false_or_eq_true (decide (k ∈ l)) with e1 | e1
            · have HN := Lib.hid (bestL_in (Q := Q) (of_decide_eq_true e1))
              rw [hkb, e1] at hbit
              clear e1 hkb
              go_wp2
              have hV0 : Up wi wi.drew := (Up.refl _).drew
              refine wp_region_calm (S := (fun w' => Up wi w' ∧ (∀ b o, b < wi.heap.size → w'.cell? ⟨b, o, none⟩ = wi.cell? ⟨b, o, none⟩))) (by kernel_rfl) (by kernel_rfl) (by exact ⟨hV0, fun _ _ hb => hV0.cell hb⟩) ?_
              repeat (first | (refine CalmSeq.cons undef (Calm.off (by rfl)) ?_; (try simp only [Act.put, List.setIfInBounds_toArray, List.set_cons_zero, List.set_cons_succ])) | (refine CalmSeq.cons ?_ (Calm.val (by rfl) ?_) ?_; rotate_left; (intro wC hSw; (try dsimp only at hSw); go_simp; done); (try simp only [Act.put, List.setIfInBounds_toArray, List.set_cons_zero, List.set_cons_succ])) | (refine CalmSeq.cons ?_ (Calm.val (by rfl) ?_) ?_; rotate_left; (intro wC hSw; (try dsimp only at hSw); go_simp; with_reducible rfl); (try simp only [Act.put, List.setIfInBounds_toArray, List.set_cons_zero, List.set_cons_succ])))
              intro w1 hS1
              have hU1 : Up wi w1 := hS1.1
              clear hS1 hV0
              go_wp2
              go_roundw
              case rel => exact ⟨k + 1, by omega, by go_num, by rw [HN.out], Up.then_ hbk hU1⟩
              case measure => simp [intOf]; omega
            · have hnm : k ∉ l := of_decide_eq_false e1
              rw [hkb, e1] at hbit
              clear e1 hkb
              rcases bestL_cases Q l k with ⟨hb0, _⟩ | ⟨x, hxk, hxl, hbx⟩
              · have HN := Lib.hid (bestL_more (Q := Q) (k := k) hnm (by rw [hb0, mostL_neg]; omega))
                rw [hb0]
                clear hb0 hnm
                go_wp2
                have hV0 : Up wi wi.drew := (Up.refl _).drew
                refine wp_region_calm (S := (fun w' => Up wi w' ∧ (∀ b o, b < wi.heap.size → w'.cell? ⟨b, o, none⟩ = wi.cell? ⟨b, o, none⟩))) (by kernel_rfl) (by kernel_rfl) (by exact ⟨hV0, fun _ _ hb => hV0.cell hb⟩) ?_
                repeat (first | (refine CalmSeq.cons undef (Calm.off (by rfl)) ?_; (try simp only [Act.put, List.setIfInBounds_toArray, List.set_cons_zero, List.set_cons_succ])) | (refine CalmSeq.cons ?_ (Calm.val (by rfl) ?_) ?_; rotate_left; (intro wC hSw; (try dsimp only at hSw); go_simp; done); (try simp only [Act.put, List.setIfInBounds_toArray, List.set_cons_zero, List.set_cons_succ])) | (refine CalmSeq.cons ?_ (Calm.val (by rfl) ?_) ?_; rotate_left; (intro wC hSw; (try dsimp only at hSw); go_simp; with_reducible rfl); (try simp only [Act.put, List.setIfInBounds_toArray, List.set_cons_zero, List.set_cons_succ])))
                intro w1 hS1
                have hU1 : Up wi w1 := hS1.1
                clear hS1 hV0
                go_wp2
                go_roundw
                case rel => exact ⟨k + 1, by omega, by go_num, by rw [HN.out], Up.then_ hbk hU1⟩
                case measure => simp [intOf]; omega
              · have hcmp := HC.out x k
                rw [hbx]
                have hxn : x < n := by omega
                obtain ⟨p, hp⟩ : ∃ p : Int, p = (labK Q l k 7 : Nat) := ⟨_, rfl⟩
                obtain ⟨q, hq⟩ : ∃ q : Int, q = (labK Q l x 7 : Nat) := ⟨_, rfl⟩
                have Hp := Lib.hid hp.symm
                have Hq := Lib.hid hq.symm
                have dx : decide ((x : Int) < 0) = false := decide_eq_false (by omega)
                have hne : k ≠ x := by omega
                by_cases hlt2 : q < p
                · have HN := Lib.hid (bestL_more (Q := Q) (k := k) hnm (by rw [hbx, mostL_nat]; have := hcmp.1 (by omega); omega))
                  have dq : decide (q < p) = true := decide_eq_true hlt2
                  clear hbx hnm hp hq hcmp hlt2
                  go_wp2
                  have hV0 : Up wi wi.drew := (Up.refl _).drew
                  refine wp_region_calm (S := (fun w' => Up wi w' ∧ (∀ b o, b < wi.heap.size → w'.cell? ⟨b, o, none⟩ = wi.cell? ⟨b, o, none⟩))) (by kernel_rfl) (by kernel_rfl) (by exact ⟨hV0, fun _ _ hb => hV0.cell hb⟩) ?_
                  repeat (first | (refine CalmSeq.cons undef (Calm.off (by rfl)) ?_; (try simp only [Act.put, List.setIfInBounds_toArray, List.set_cons_zero, List.set_cons_succ])) | (refine CalmSeq.cons ?_ (Calm.val (by rfl) ?_) ?_; rotate_left; (intro wC hSw; (try dsimp only at hSw); go_simp; done); (try simp only [Act.put, List.setIfInBounds_toArray, List.set_cons_zero, List.set_cons_succ])) | (refine CalmSeq.cons ?_ (Calm.val (by rfl) ?_) ?_; rotate_left; (intro wC hSw; (try dsimp only at hSw); go_simp; with_reducible rfl); (try simp only [Act.put, List.setIfInBounds_toArray, List.set_cons_zero, List.set_cons_succ])) | ((refine CalmSeq.cons ?_ (Calm.call (f := ?_) (args := ?_) (by rfl) ?_ (fun wC hSw => ?_)) ?_; rotate_left 3; (intro wC; go_simp; (refine ⟨?_, ?_⟩ <;> with_reducible rfl)); (go_at_call_of 147 (Value.int .i64 (k : Int)); (with_reducible refine (l5Label_is ((hXo.up hbk).up hSw.1) ((hLo.up hbk).up hSw.1) h hkn hlv.out hl7 Hp.out).mono ?_); rintro e wD ⟨rfl, hbD⟩; apply And.intro; (with_reducible rfl); (have hUD := Up.then_ hSw.1 hbD; exact ⟨hUD, fun _ _ hb => hUD.cell hb⟩))); (try simp only [Act.put, List.setIfInBounds_toArray, List.set_cons_zero, List.set_cons_succ])) | ((refine CalmSeq.cons ?_ (Calm.call (f := ?_) (args := ?_) (by rfl) ?_ (fun wC hSw => ?_)) ?_; rotate_left 3; (intro wC; go_simp; (refine ⟨?_, ?_⟩ <;> with_reducible rfl)); (go_at_call_of 147 (Value.int .i64 (x : Int)); (with_reducible refine (l5Label_is ((hXo.up hbk).up hSw.1) ((hLo.up hbk).up hSw.1) h hxn hlv.out hl7 Hq.out).mono ?_); rintro e wD ⟨rfl, hbD⟩; apply And.intro; (with_reducible rfl); (have hUD := Up.then_ hSw.1 hbD; exact ⟨hUD, fun _ _ hb => hUD.cell hb⟩))); (try simp only [Act.put, List.setIfInBounds_toArray, List.set_cons_zero, List.set_cons_succ])))
                  intro w1 hS1
                  have hU1 : Up wi w1 := hS1.1
                  clear hS1 hV0
                  go_wp2
                  go_roundw
                  case rel => exact ⟨k + 1, by omega, by go_num, by rw [HN.out], Up.then_ hbk hU1⟩
                  case measure => simp [intOf]; omega
                · have HN := Lib.hid ((bestL_less (Q := Q) (l := l) (k := k) (by rw [hbx, mostL_nat]; intro hh; exact hlt2 (by have := hcmp.2 (by omega); omega))).trans hbx)
                  have dq : decide (q < p) = false := decide_eq_false hlt2
                  clear hbx hnm hp hq hcmp hlt2
                  go_wp2
                  have hV0 : Up wi wi.drew := (Up.refl _).drew
                  refine wp_region_calm (S := (fun w' => Up wi w' ∧ (∀ b o, b < wi.heap.size → w'.cell? ⟨b, o, none⟩ = wi.cell? ⟨b, o, none⟩))) (by kernel_rfl) (by kernel_rfl) (by exact ⟨hV0, fun _ _ hb => hV0.cell hb⟩) ?_
                  repeat (first | (refine CalmSeq.cons undef (Calm.off (by rfl)) ?_; (try simp only [Act.put, List.setIfInBounds_toArray, List.set_cons_zero, List.set_cons_succ])) | (refine CalmSeq.cons ?_ (Calm.val (by rfl) ?_) ?_; rotate_left; (intro wC hSw; (try dsimp only at hSw); go_simp; done); (try simp only [Act.put, List.setIfInBounds_toArray, List.set_cons_zero, List.set_cons_succ])) | (refine CalmSeq.cons ?_ (Calm.val (by rfl) ?_) ?_; rotate_left; (intro wC hSw; (try dsimp only at hSw); go_simp; with_reducible rfl); (try simp only [Act.put, List.setIfInBounds_toArray, List.set_cons_zero, List.set_cons_succ])) | ((refine CalmSeq.cons ?_ (Calm.call (f := ?_) (args := ?_) (by rfl) ?_ (fun wC hSw => ?_)) ?_; rotate_left 3; (intro wC; go_simp; (refine ⟨?_, ?_⟩ <;> with_reducible rfl)); (go_at_call_of 147 (Value.int .i64 (k : Int)); (with_reducible refine (l5Label_is ((hXo.up hbk).up hSw.1) ((hLo.up hbk).up hSw.1) h hkn hlv.out hl7 Hp.out).mono ?_); rintro e wD ⟨rfl, hbD⟩; apply And.intro; (with_reducible rfl); (have hUD := Up.then_ hSw.1 hbD; exact ⟨hUD, fun _ _ hb => hUD.cell hb⟩))); (try simp only [Act.put, List.setIfInBounds_toArray, List.set_cons_zero, List.set_cons_succ])) | ((refine CalmSeq.cons ?_ (Calm.call (f := ?_) (args := ?_) (by rfl) ?_ (fun wC hSw => ?_)) ?_; rotate_left 3; (intro wC; go_simp; (refine ⟨?_, ?_⟩ <;> with_reducible rfl)); (go_at_call_of 147 (Value.int .i64 (x : Int)); (with_reducible refine (l5Label_is ((hXo.up hbk).up hSw.1) ((hLo.up hbk).up hSw.1) h hxn hlv.out hl7 Hq.out).mono ?_); rintro e wD ⟨rfl, hbD⟩; apply And.intro; (with_reducible rfl); (have hUD := Up.then_ hSw.1 hbD; exact ⟨hUD, fun _ _ hb => hUD.cell hb⟩))); (try simp only [Act.put, List.setIfInBounds_toArray, List.set_cons_zero, List.set_cons_succ])))
                  intro w1 hS1
                  have hU1 : Up wi w1 := hS1.1
                  clear hS1 hV0
                  go_wp2
                  go_roundw
                  case rel => exact ⟨k + 1, by omega, by go_num, by rw [HN.out], Up.then_ hbk hU1⟩
                  case measure => simp [intOf]; omega
          · obtain rfl : k = n := by omega
            obtain ⟨b, hbn, hbl, hbe, hbv⟩ := HNx.out
            rw [hbe]
            have hownk := hown.up hbk
            have hcell := (Blk.new wi 3 #[.int .i64 (b : Int)]).one
            have hsz := hb.size
            have hsi := hbk.size
            obtain ⟨g, rfl⟩ : ∃ g, gk = g + 1 := ⟨gk - 1, by omega⟩
            have HLx2 := Lib.hid (show lexR Q k g (l ++ [b]) = R by have := HLx.out; rw [lexR, hbe, Int.toNat_natCast] at this; exact this)
            have Hbv := Lib.hid hbv
            have hadd := Hadd.out b hbl
            have hshb := shl_p2 (k := b) (by omega)
            have hpb := p2_le (k := b) (by omega)
            have HA2 := Lib.hid (show ((U : Int) + (p2 b : Int)) = ((setN (l ++ [b]) : Nat) : Int) by
              rw [← hadd]; show _ = ((U + p2 b : Nat) : Int); omega)
            clear hbe hbl HNx hbv hadd
            go_wp2_with (at_builtin; refine wpList_push rfl (.tmp 60) (.tmp 62) rfl (b : Int) rfl (hownk.alloc _) ⟨wi.heap.size, 0, none⟩ rfl hcell (by omega) (by simp; omega) ?_; intro A7 c7 w7 hown7 hb7 hg7)
            go_roundg g
            case measure => omega
            case rel =>
              exact ⟨l ++ [b], A7, c7, by rw [← push_len], by rw [HA2.out], hown7.cast push_len (by rw [ints_snoc]), ((hb.trans (hbk.mono hsz)).alloc (Nat.le_trans hsz hsi) _).trans hb7, by rw [← push_len]; omega, by simp, Hbv.out, HLx2.out⟩
      · have e : gk = 0 := by omega
        subst e
        have HE := Lib.hid (show l = R from hlx.out.2)
        go_wp2
        go_ret2
        rw [← HE.out]
        exact givesIB_some hown hU1.size (Up.then_ hU1 hb)
end Go.Proofs.YthncdjcmlpiebaaGreatDoor
namespace Go.Proofs.YthncdjcmlpiebaaGreatDoor
open Go.RowKit
set_option maxRecDepth 100000 in
set_option maxHeartbeats 4000000 in
theorem specEliminationOf_any (N : Int) (A : Option Addr) (n c : Nat) (X : List Int) (w : World) (hX : RI w A n X) (hn : n ≤ 9223372036854775807) :
    Calls Tryz.prog 85 #[.agg #[.int .i64 N, .slice A n c]] w (GivesIB (optL (elimOf N X)) (elimOf N X).isSome w) := by
  rcases isGraph_cases N X with hg | ⟨k, Q, rfl, rfl, h⟩
  · rw [elimOf_no hg]
    have H1 := Lib.hid hg
    clear hg
    go_enter Tryz.func85, Tryz.ntmps85
    go_wp2_with fail
    refine (specIsGraph_is (hX.up (by go_grown)) hn H1.out).mono ?_
    rintro e w1 ⟨rfl, hb1⟩
    have hU1 : Up w w1 := Up.then_ (by go_grown) hb1
    have hown0 := ((OwnI.made_at (w := w.alloc (.cells #[.int .i64 N, .slice A n c] 29)) (base := w.heap.size) (g := w.heap.size + 1) (by simp) (by omega)).up hb1)
    go_wp2
    go_ret2
    exact givesIB_none hown0 (Nat.le_refl _) hU1
  · obtain rfl : n = k := by rw [← hX.1, ints_len, h.len]
    rw [elimOf_ok h]
    have hn7 := h.le
    have hn1 := h.pos
    have hpp := p2_le hn7
    have hp1 := p2_pos n
    have hsh := shl_p2 (k := n) (by omega)
    have H2n := Lib.hid (show 2 ^ n = p2 n from rfl)
    have HR := Lib.hid (show 2 ^ n - 1 = p2 n - 1 from rfl)
    rw [HR.out]
    obtain ⟨R, hR⟩ : ∃ R, R = elimR Q 127 [] (p2 n - 1) := ⟨_, rfl⟩
    rw [← hR]
    replace hR := Lib.hid hR.symm
    go_enter Tryz.func85, Tryz.ntmps85
    have hXw := Lib.hid hX
    go_wp2_with fail
    refine (specIsGraph_is (hX.up (by go_grown)) hn h.is).mono ?_
    rintro e w1 ⟨rfl, hb1⟩
    have hU1 : Up w w1 := Up.then_ (by go_grown) hb1
    replace hX := hX.up hU1
    have hown1 := ((OwnI.made_at (w := w.alloc (.cells #[.int .i64 n, .slice A n c] 29)) (base := w.heap.size) (g := w.heap.size + 1) (by simp) (by omega)).up hb1)
    have hblk := ((Blk.new w 29 #[.int .i64 n, .slice A n c]).alloc (.cells #[] 3)).up hb1
    obtain ⟨a, rfl, _, _⟩ := hX.addr h.pos
    have hyb := hblk.two
    go_wp2_with fail
    clear hsh hyb
    go_loopw [4, 5] (fun s l wr => ∃ (acc : List Nat) (A' : Option Addr) (c' f L : Nat), s = .slice A' acc.length c' ∧ l = .int .i64 L ∧ OwnI wr w.heap.size A' acc.length c' (ints acc) ∧ Blk wr w.heap.size 29 #[.int .i64 n, .slice (some a) n c] ∧ Below w.heap.size w wr ∧ acc.length + L ≤ 127 ∧ L ≤ f ∧ L < 2 ^ n ∧ Hid (elimR Q f acc L = R)) (fun _ l _ => (intOf l).toNat)
    case atStart => exact ⟨[], _, _, 127, p2 n - 1, rfl, by go_num, hown1, hblk, hU1, by simp; omega, by omega, by rw [H2n.out]; omega, hR⟩
    case round =>
      clear hX hblk hown1
      obtain ⟨acc, A', c', f, L, rfl, rfl, hown, hblk, hb, hal, hLf, hLn, hel⟩ := hrel
      obtain ⟨wo, rfl⟩ : ∃ wo : World, wo = wr := ⟨_, rfl⟩
      have hX := hXw.out.up hb
      have hL7 : L < 128 := h.n7 hLn
      have Hel := Lib.hid hel.out
      clear hel
      by_cases hL0 : L = 0
      · subst hL0
        have e := Hel.out
        rw [elimR_zero] at e
        go_wp2
        go_ret2
        rw [← e]
        exact givesIB_some hown (Nat.le_refl _) hb
      · obtain ⟨P, hP⟩ : ∃ P : Nat → Bool, P = fun v => L.testBit v && spl Q L v := ⟨_, rfl⟩
        have HP := Lib.hid hP
        clear hP
        have hLp : 0 < L := by omega
        have hyb := hblk.two
        go_wp2_with fail
        go_loopw [6, 7] (fun fd i wr => ∃ j : Nat, j ≤ n ∧ i = .int .i64 ((n : Int) - 1 - j) ∧ fd = .int .i64 (lowK P n j) ∧ Up wo wr) (fun _ i _ => ((intOf i) + 1).toNat)
        case atStart => exact ⟨0, Nat.zero_le _, by go_num, rfl, Up.refl _⟩
        case round =>
          clear hyb
          obtain ⟨j, hj, rfl, rfl, hbj⟩ := hrel
          obtain ⟨wj, rfl⟩ : ∃ wj : World, wj = wr := ⟨_, rfl⟩
          by_cases hjn : j < n
          · obtain ⟨v, hv⟩ : ∃ v : Nat, v = n - (j + 1) := ⟨_, rfl⟩
            have hvn : v < n := by omega
            have hvi : (n : Int) - 1 - j = v := by omega
            rw [hvi]
            have hsub : (n : Int) - 1 - ((j + 1 : Nat) : Int) = (v : Int) - 1 := by omega
            have hXj := hX.up hbj
            have hyb := (hblk.up hbj).two
            have hbit := bit_one L v (by omega)
            rcases Bool.eq_false_or_eq_true (L.testBit v) with e1 | e1
            · rw [e1] at hbit
              rcases Bool.eq_false_or_eq_true (spl Q L v) with e2 | e2
              · have HN := Lib.hid (show lowK P n (j + 1) = v by rw [lowK, ← hv, if_pos (by rw [HP.out]; simp [e1, e2])])
                have E2 := Lib.hid e2
                clear e1 e2 hv
                go_wp2_with (go_at_call 133; refine (l6Simplicial_is (hXj.up (by go_grown)) h hLn hvn E2.out).mono ?_; rintro e w4 ⟨rfl, hb4⟩)
                go_roundw
                case rel => exact ⟨j + 1, by omega, by rw [hsub], by rw [HN.out], Up.then_ hbj hb4⟩
                case measure => first | (simp [intOf]; done) | (simp [intOf]; omega)
              · have HN := Lib.hid (show lowK P n (j + 1) = lowK P n j by rw [lowK, ← hv, if_neg (by rw [HP.out]; simp [e1, e2])])
                have E2 := Lib.hid e2
                clear e1 e2 hv
                go_wp2_with (go_at_call 133; refine (l6Simplicial_is (hXj.up (by go_grown)) h hLn hvn E2.out).mono ?_; rintro e w4 ⟨rfl, hb4⟩)
                go_roundw
                case rel => exact ⟨j + 1, by omega, by rw [hsub], by rw [HN.out], Up.then_ hbj hb4⟩
                case measure => first | (simp [intOf]; done) | (simp [intOf]; omega)
            · rw [e1] at hbit
              have HN := Lib.hid (show lowK P n (j + 1) = lowK P n j by rw [lowK, ← hv, if_neg (by rw [HP.out]; simp [e1])])
              clear e1 hv
              go_wp2
              go_roundw
              case rel => exact ⟨j + 1, by omega, by rw [hsub], by rw [HN.out], hbj⟩
              case measure => first | (simp [intOf]; done) | (simp [intOf]; omega)
          · obtain rfl : j = n := by omega
            have Hc := Lib.hid (lowK_cases P j j (Nat.le_refl _))
            have Hd := Lib.hid hLn
            rcases Hc.out with ⟨hl1, hl2⟩ | ⟨v, hl1, hl2, hl3, hl4, hl5⟩
            · rw [hl1]
              have HE := Lib.hid (elimR_none (f := f) (acc := acc) hL0 hLf (stp_none fun v _ hb => by
                have := hl2 v (by omega) (bit_lt Hd.out hb)
                rw [HP.out] at this
                simpa [hb] using this))
              clear hl1 hl2 Hc
              have hown5 := OwnI.made (base := w.heap.size) wj (Nat.le_trans hb.size hbj.size)
              go_wp2
              go_ret2
              have e := Hel.out
              rw [HE.out] at e
              rw [← e]
              exact givesIB_none hown5 (Nat.le_refl _) ((Up.then_ hb hbj).alloc (Nat.le_trans hb.size hbj.size) _)
            · rw [hl3]
              rw [HP.out] at hl4
              have hbv : L.testBit v = true := by simp at hl4; exact hl4.1
              have hsv : spl Q L v = true := by simp at hl4; exact hl4.2
              have HE := Lib.hid (elimR_some (f := f) (acc := acc) hL0 hLf (stp_some (by omega) hbv hsv fun u hu hbu => by
                have := hl5 u (by omega) hu
                rw [HP.out] at this
                simpa [hbu] using this))
              have hsb := sub_bit hbv
              have hdl := dif_bit_lt hbv
              have hsh := shl_p2 (k := v) (by omega)
              have hpv := p2_le (k := v) (by omega)
              have hvv : (0 : Int) ≤ v := by omega
              have hpe : 2 ^ v = p2 v := rfl
              rw [hpe] at hsb hdl
              have HS := Lib.hid (show (L : Int) - (p2 v : Nat) = ((dif L (p2 v) : Nat) : Int) by rw [← hsb.2]; exact (Int.ofNat_sub hsb.1).symm)
              have hws : wrap64 ((L : Int) - (p2 v : Nat)) = ((dif L (p2 v) : Nat) : Int) := by rw [HS.out]; unfold wrap64; omega
              obtain ⟨f', hf', HE'⟩ := HE.out
              have HE2 := Lib.hid (HE'.symm.trans Hel.out)
              clear HE HE' Hel Hc hl3 hl4 hl5 hbv hsv hpe
              have hcell := (Blk.new wj 3 #[.int .i64 (v : Int)]).one
              have hsz := Nat.le_trans hb.size hbj.size
              go_wp2_with (at_builtin; refine wpList_push rfl (.tmp 41) (.tmp 43) rfl (v : Int) rfl ((hown.up hbj).alloc _) ⟨wj.heap.size, 0, none⟩ rfl hcell (by omega) (by simp; omega) ?_; intro A7 c7 w7 hown7 hb7 hg7)
              go_roundw
              case rel =>
                have hU6 : Up wj (wj.alloc (.cells #[.int .i64 (v : Int)] 3)) := by go_grown
                have hblk7 := ((hown.up hbj).alloc (.cells #[.int .i64 (v : Int)] 3)).keeps hg7 ((hblk.up hbj).alloc _) (by decide)
                have hb8 : Below w.heap.size w w7 := (Up.then_ (Up.then_ hb hbj) hU6).trans hb7
                exact ⟨acc ++ [v], A7, c7, f', dif L (p2 v), by rw [← push_len], by rw [hws], hown7.cast push_len (by rw [ints_snoc]), hblk7, hb8, by rw [← push_len]; omega, by omega, Nat.lt_of_le_of_lt (by omega) hLn, HE2⟩
              case measure => first | (simp [intOf]; done) | (simp [intOf]; omega)
end Go.Proofs.YthncdjcmlpiebaaGreatDoor
