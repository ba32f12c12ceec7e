/- Draws: a graph and an order. How long the lists are that the searches find. No program in sight. Draws: a graph and an order, or what stands against one. Draws: what the laws of cliques and of chordal graphs draw. Draws: what the laws of cliques and of chordal graphs draw besides. Draws of the law of proper interval graphs, simple ones. Helpers of the great laws: the same intervals in two structs. -/
import Derived.Test.YthncdjcmlpiebaaGreatQp05
import Derived.Test.YthncdjcmlpiebaaGreatQp06
import Derived.Test.YthncdjcmlpiebaaGreatQp07
import Derived.Test.YthncdjcmlpiebaaGreatQp08
import Derived.Test.YthncdjcmlpiebaaGreatQp18
import Derived.Test.YthncdjcmlpiebaaGreatQp20
import Derived.Deep.RegionWith
namespace Go.Proofs.YthncdjcmlpiebaaGreat
open Go.RowKit
/-- A drawn graph in a box, the cursor and the result beside. -/
structure DB (w : World) (g : Nat) (B : Option Addr) (n c : Nat) (bs : List Int) (gr gb : Nat) (N : Int) (A : Option Addr) (m d : Nat) (X : List Int) (wr : World) : Prop where
  cur : Cur wr g B n c bs
  res : Blk wr gr 26 #[.int .i64 0, .slice none 0 0]
  box : Blk wr gb 26 #[.int .i64 N, .slice A m d]
  own : OwnI wr (g + 1) A m d X
  bel : Below w.heap.size w wr
  hgr : w.heap.size ≤ gr
  low : w.heap.size ≤ g
  ne : gr ≠ g
  hgb : g < gb
  ne2 : gr ≠ gb
section
variable {w wr w' : World} {g n c gr gb m d : Nat} {B A : Option Addr} {bs X : List Int} {N : Int}
set_option maxRecDepth 100000 in
theorem DB.up (I : DB w g B n c bs gr gb N A m d X wr) (hb : Up wr w') : DB w g B n c bs gr gb N A m d X w' :=
  ⟨I.cur.up hb, I.res.up hb, I.box.up hb, I.own.up hb, Up.then_ I.bel hb, I.hgr, I.low, I.ne, I.hgb, I.ne2⟩
set_option maxRecDepth 100000 in
theorem DB.dr (I : DB w g B n c bs gr gb N A m d X wr) (hC : Cur w' g B n c bs) (hg : wr.grownBy w' (some g)) : DB w g B n c bs gr gb N A m d X w' :=
  ⟨hC, I.res.grown hg (fun e => I.ne (by injection e)), I.box.grown hg (fun e => by injection e with e; have := I.hgb; omega), I.own.far_gb hg (by omega), I.bel.grown hg I.bel.size (fun k hk => by injection hk with hk; have := I.low; omega), I.hgr, I.low, I.ne, I.hgb, I.ne2⟩
set_option maxRecDepth 100000 in
/-- The box's fields go into the result. -/
theorem DB.fin (I : DB w g B n c bs gr gb N A m d X wr) : OwnI ((wr.setCell ⟨gr, 0, none⟩ (.int .i64 N)).setCell ⟨gr, 1, none⟩ (.slice A m d)) w.heap.size A m d X ∧ Below w.heap.size w ((wr.setCell ⟨gr, 0, none⟩ (.int .i64 N)).setCell ⟨gr, 1, none⟩ (.slice A m d)) ∧ Blk ((wr.setCell ⟨gr, 0, none⟩ (.int .i64 N)).setCell ⟨gr, 1, none⟩ (.slice A m d)) gr 26 #[.int .i64 N, .slice A m d] ∧
    ∀ (A' : Option Addr) (k d' : Nat) (xs : List Int), OwnI wr w.heap.size A' k d' xs → OwnI ((wr.setCell ⟨gr, 0, none⟩ (.int .i64 N)).setCell ⟨gr, 1, none⟩ (.slice A m d)) w.heap.size A' k d' xs :=
  ⟨((I.own.more (base' := w.heap.size) (by have := I.low; omega)).other_store (i := 0) I.res (by decide) _).other_store (i := 1) (I.res.set_ 0 _) (by decide) _, (I.bel.setCell (p := ⟨gr, 0, none⟩) I.hgr _).setCell (p := ⟨gr, 1, none⟩) I.hgr _, (I.res.set_ 0 _).set_ 1 _,
    fun _ _ _ _ ho => (ho.other_store (i := 0) I.res (by decide) _).other_store (i := 1) (I.res.set_ 0 _) (by decide) _⟩
end
end Go.Proofs.YthncdjcmlpiebaaGreat
namespace Go.Proofs.YthncdjcmlpiebaaGreat
theorem umb_len7 (N : Int) (X : List Int) : (optL (umbOf N X)).length ≤ 7 := by
  rcases hu : umbOf N X with _ | o
  · simp [optL, ints]
  · obtain ⟨n, Q, _, _, h, _, hl, _⟩ := umbOf_spec hu
    have := h.le
    rw [optL, ints_len]
    show o.length ≤ 7
    omega
theorem ivObs_len7 (N : Int) (X : List Int) : (optL (ivObsOf N X)).length ≤ 7 := by
  rcases hu : ivObsOf N X with _ | o
  · simp [optL, ints]
  · rw [optL, ints_len]
    show o.length ≤ 7
    rcases graph_cases N X with hg | ⟨n, Q, rfl, rfl, h⟩
    · rw [ivObsOf, holeOf_no hg, tripOf_no hg] at hu; cases hu
    · rw [ivObsOf, Option.or_eq_some_iff] at hu
      rcases hu with hu | ⟨_, hu⟩
      · have := (holeOf_some h hu).1.len
        have := h.le
        omega
      · obtain ⟨a, b, c, rfl, _⟩ := tripOf_some h hu
        simp
theorem prObs_len7 (N : Int) (X : List Int) : (optL (prObsOf N X)).length ≤ 7 := by
  rcases hu : prObsOf N X with _ | o
  · simp [optL, ints]
  · rw [optL, ints_len]
    show o.length ≤ 7
    rw [prObsOf, Option.or_eq_some_iff] at hu
    rcases hu with hu | ⟨_, hu⟩
    · rcases graph_cases N X with hg | ⟨n, Q, rfl, rfl, h⟩
      · rw [clawOf_no hg] at hu; cases hu
      · rw [clawOf_ok h] at hu
        have := (srch_spec hu).1
        simp at this
        omega
    · have := ivObs_len7 N X
      rw [hu, optL, ints_len] at this
      exact this
theorem lex_len7 (N : Int) (X : List Int) (s : Int) : (optL (lexOf N X s)).length ≤ 7 := by
  rcases lexOf_cases N X s with ⟨hl, _⟩ | ⟨n, t, Q, rfl, rfl, rfl, h, ht⟩
  · rw [hl]; simp [optL, ints]
  · rw [lexOf_ok h ht, optL, ints_len]
    have := (lexR_order h ht).2
    have := h.le
    show (lexR Q n (n - 1) [t]).length ≤ 7
    omega
end Go.Proofs.YthncdjcmlpiebaaGreat
namespace Go.Proofs.YthncdjcmlpiebaaGreat
open Go.RowKit
set_option maxRecDepth 100000 in
set_option maxHeartbeats 4000000 in
theorem drawIsUmbrella_any (B : Option Addr) (n c : Nat) (bs : List Int) (w : World) (hB : RB w B n bs) (hn : n ≤ 1048576) (hlow : ∀ ad, B = some ad → ad.block < w.heap.size) :
    Calls Tryz.prog 23 #[.slice B n c] w (BothP le6L w) := by
  have hU0 : Up w (w.alloc (.cells #[.int .i64 0, .slice none 0 0] 26)) := by go_grown
  have hR0 := Blk.new w 26 #[.int .i64 0, .slice none 0 0]
  have hs0 : (w.alloc (.cells #[.int .i64 0, .slice none 0 0] 26)).heap.size = w.heap.size + 1 := by simp
  obtain ⟨gr, hgr⟩ : ∃ gr, gr = w.heap.size := ⟨_, rfl⟩
  go_enter Tryz.func23, Tryz.ntmps23
  go_wp2_with fail
  refine (l1New_any B n c bs _ (hB.up hU0) hn (fun ad e => by have := hlow ad e; omega)).mono ?_
  rintro e w1 ⟨g, rfl, hC1, hb1, hg1⟩
  have hR1 := hR0.up hb1
  have hU1 := Up.then_ hU0 hb1
  rw [← hgr] at hR1 ⊢
  have hgr' : w.heap.size ≤ gr := by omega
  have hne : gr ≠ g := by omega
  have hlg : w.heap.size ≤ g := by omega
  clear hgr hR0 hs0 hb1 hg1 hU0
  go_wp2_with fail
  refine (l12Graph_any hC1).mono ?_
  rintro e w2 ⟨v, rfl, ⟨N, A, m, d, X, rfl, ho, hX⟩, hC2, hg2⟩
  have hlt := hC1.lt
  have hs2 := hg2.size
  have hR2 := hR1.grown hg2 (fun e => hne (by injection e))
  have hU2 := hU1.grown hg2 hU1.size (fun k hk => by injection hk with hk; omega)
  have hU3 : Up w2 (w2.alloc (.cells #[.int .i64 N, .slice A m d] 26)) := by go_grown
  have hltr := hR2.lt
  have I : DB w g B n c bs gr w2.heap.size N A m d X (w2.alloc (.cells #[.int .i64 N, .slice A m d] 26)) :=
    ⟨hC2.up hU3, hR2.up hU3, Blk.new _ _ _, (ho.more (by omega)).up hU3, Up.then_ hU2 hU3, hgr', hlg, hne, by omega, by omega⟩
  clear hR1 hU1 hC1 hR2 hU2 hU3 hC2 hg2 ho hltr
  obtain ⟨gb, hgb⟩ : ∃ gb, gb = w2.heap.size := ⟨_, rfl⟩
  rw [← hgb] at I
  go_wp2_with fail
  rw [← hgb]
  generalize w2.alloc (.cells #[.int .i64 N, .slice A m d] 26) = w3 at I ⊢
  clear hgb hs2 hlt
  have hm64 : m ≤ 9223372036854775807 := by have := I.own.cap; omega
  have hle := umb_len7 N X
  have hlw := I.low
  have hy := I.box.two
  refine (specUmbrellaOf_any N A m d X w3 I.own.ri hm64).mono ?_
  rintro e w4 ⟨A1, c1, rfl, hO1, hb4⟩
  obtain ⟨xs1, hxs1⟩ : ∃ xs1, xs1 = optL (umbOf N X) := ⟨_, rfl⟩
  obtain ⟨b1, hbb1⟩ : ∃ b1, b1 = (umbOf N X).isSome := ⟨_, rfl⟩
  rw [← hxs1] at hO1 hle ⊢
  rw [← hbb1]
  replace hO1 := hO1.more (base' := g + 1) (by have := I.cur.lt; omega)
  replace I := I.up hb4
  clear hb4 hxs1 hbb1 hy
  cases b1
  · clear hO1 hle
    have hlx := lex_len7 N X 0
    have hy := I.box.two
    have hlb := I.box.lt
    go_wp2_with fail
    refine (specLexOrder_any N 0 A m d X _ I.own.ri hm64).mono ?_
    rintro e w7 ⟨A2, c2, rfl, hO2, hb7⟩
    obtain ⟨xs2, hxs2⟩ : ∃ xs2, xs2 = optL (lexOf N X 0) := ⟨_, rfl⟩
    obtain ⟨b2, hbb2⟩ : ∃ b2, b2 = (lexOf N X 0).isSome := ⟨_, rfl⟩
    rw [← hxs2] at hO2 hlx ⊢
    rw [← hbb2]
    have hlo := I.low
    replace hO2 := hO2.more (base' := w.heap.size) I.bel.size
    replace I := I.up hb7
    clear hb7 hxs2 hbb2 hy hlb
    cases b2
    · clear hO2
      have hy := I.box.two
      have hlb := I.box.lt
      have hgs := I.cur.lt
      have hyr := I.res.two
      have hf0 := I.res.frozen 0
      have hf1 := I.res.frozen 1
      go_wp2_with fail
      go_region_with (refine (l4List_any (I.up (Below.drew (Up.refl _))).cur N A m d).mono ?_; rintro e w8 ⟨v, rfl, ⟨A3, c3, xs3, rfl, hO3, hl3⟩, hC8, hg8⟩; have I8 := (I.up (Below.drew (Up.refl _))).dr hC8 hg8; have hy8 := I8.box.two; have hyr8 := I8.res.two; have hf80 := I8.res.frozen 0; have hf81 := I8.res.frozen 1)
      all_goals
        replace hO3 := hO3.more (base' := w.heap.size) (by have := I.bel.size; show w.heap.size ≤ w7.heap.size; omega)
        clear hy hyr hf0 hf1
        obtain ⟨f1, f2, f3, f4⟩ := I8.fin
        have f5 := f4 _ _ _ _ hO3
        have hfin := f3.two
        clear I8 I f3 f4 hO3 hyr8 hf80 hf81 hy8
        go_wp2
        generalize (w8.setCell ⟨gr, 0, none⟩ (.int .i64 N)).setCell ⟨gr, 1, none⟩ (.slice A m d) = Wf at f1 f2 f5 hfin ⊢
        refine bodyPost_ret (v := .tuple #[.agg #[.int .i64 N, .slice A m d], .slice A3 xs3.length c3]) ?_ rfl ?_
        · simp [results, Tryz.results23, go_sem, hfin]
        exact ⟨N, A, m, d, X, A3, c3, xs3, rfl, f1, hX, f5, by omega, f2⟩
    · have hy := I.box.two
      have hlb := I.box.lt
      have hyr := I.res.two
      have hf0 := I.res.frozen 0
      have hf1 := I.res.frozen 1
      have hlow := I.low
      obtain ⟨f1, f2, f3, f4⟩ := I.fin
      have f5 := f4 _ _ _ _ (hO2.more (base' := w.heap.size) (by omega))
      have hfin := f3.two
      clear I hO2 f3 f4
      go_wp2
      generalize (w7.setCell ⟨gr, 0, none⟩ (.int .i64 N)).setCell ⟨gr, 1, none⟩ (.slice A m d) = Wf at f1 f2 f5 hfin ⊢
      refine bodyPost_ret (v := .tuple #[.agg #[.int .i64 N, .slice A m d], .slice A2 xs2.length c2]) ?_ rfl ?_
      · simp [results, Tryz.results23, go_sem, hfin]
      exact ⟨N, A, m, d, X, A2, c2, xs2, rfl, f1, hX, f5, by omega, f2⟩
  · go_wp2_with fail
    refine (l1Once_any I.cur 3 (by omega) (by omega)).mono ?_
    rintro e w5 ⟨v, rfl, ⟨q, rfl⟩, hC5, hg5⟩
    replace I := I.dr hC5 hg5
    replace hO1 := hO1.far_gb hg5 (by omega)
    clear hC5 hg5
    cases q
    · have hy := I.box.two
      have hlb := I.box.lt
      have hyr := I.res.two
      have hf0 := I.res.frozen 0
      have hf1 := I.res.frozen 1
      have hlow := I.low
      obtain ⟨f1, f2, f3, f4⟩ := I.fin
      have f5 := f4 _ _ _ _ (hO1.more (base' := w.heap.size) (by omega))
      have hfin := f3.two
      clear I hO1 f3 f4
      go_wp2
      generalize (w5.setCell ⟨gr, 0, none⟩ (.int .i64 N)).setCell ⟨gr, 1, none⟩ (.slice A m d) = Wf at f1 f2 f5 hfin ⊢
      refine bodyPost_ret (v := .tuple #[.agg #[.int .i64 N, .slice A m d], .slice A1 xs1.length c1]) ?_ rfl ?_
      · simp [results, Tryz.results23, go_sem, hfin]
      exact ⟨N, A, m, d, X, A1, c1, xs1, rfl, f1, hX, f5, by omega, f2⟩
    · clear hO1 hle
      have hlx := lex_len7 N X 0
      have hy := I.box.two
      have hlb := I.box.lt
      go_wp2_with fail
      refine (specLexOrder_any N 0 A m d X _ I.own.ri hm64).mono ?_
      rintro e w7 ⟨A2, c2, rfl, hO2, hb7⟩
      obtain ⟨xs2, hxs2⟩ : ∃ xs2, xs2 = optL (lexOf N X 0) := ⟨_, rfl⟩
      obtain ⟨b2, hbb2⟩ : ∃ b2, b2 = (lexOf N X 0).isSome := ⟨_, rfl⟩
      rw [← hxs2] at hO2 hlx ⊢
      rw [← hbb2]
      have hlo := I.low
      replace hO2 := hO2.more (base' := w.heap.size) I.bel.size
      replace I := I.up hb7
      clear hb7 hxs2 hbb2 hy hlb
      cases b2
      · clear hO2
        have hy := I.box.two
        have hlb := I.box.lt
        have hgs := I.cur.lt
        have hyr := I.res.two
        have hf0 := I.res.frozen 0
        have hf1 := I.res.frozen 1
        go_wp2_with fail
        go_region_with (refine (l4List_any (I.up (Below.drew (Up.refl _))).cur N A m d).mono ?_; rintro e w8 ⟨v, rfl, ⟨A3, c3, xs3, rfl, hO3, hl3⟩, hC8, hg8⟩; have I8 := (I.up (Below.drew (Up.refl _))).dr hC8 hg8; have hy8 := I8.box.two; have hyr8 := I8.res.two; have hf80 := I8.res.frozen 0; have hf81 := I8.res.frozen 1)
        all_goals
          replace hO3 := hO3.more (base' := w.heap.size) (by have := I.bel.size; show w.heap.size ≤ w7.heap.size; omega)
          clear hy hyr hf0 hf1
          obtain ⟨f1, f2, f3, f4⟩ := I8.fin
          have f5 := f4 _ _ _ _ hO3
          have hfin := f3.two
          clear I8 I f3 f4 hO3 hyr8 hf80 hf81 hy8
          go_wp2
          generalize (w8.setCell ⟨gr, 0, none⟩ (.int .i64 N)).setCell ⟨gr, 1, none⟩ (.slice A m d) = Wf at f1 f2 f5 hfin ⊢
          refine bodyPost_ret (v := .tuple #[.agg #[.int .i64 N, .slice A m d], .slice A3 xs3.length c3]) ?_ rfl ?_
          · simp [results, Tryz.results23, go_sem, hfin]
          exact ⟨N, A, m, d, X, A3, c3, xs3, rfl, f1, hX, f5, by omega, f2⟩
      · have hy := I.box.two
        have hlb := I.box.lt
        have hyr := I.res.two
        have hf0 := I.res.frozen 0
        have hf1 := I.res.frozen 1
        have hlow := I.low
        obtain ⟨f1, f2, f3, f4⟩ := I.fin
        have f5 := f4 _ _ _ _ (hO2.more (base' := w.heap.size) (by omega))
        have hfin := f3.two
        clear I hO2 f3 f4
        go_wp2
        generalize (w7.setCell ⟨gr, 0, none⟩ (.int .i64 N)).setCell ⟨gr, 1, none⟩ (.slice A m d) = Wf at f1 f2 f5 hfin ⊢
        refine bodyPost_ret (v := .tuple #[.agg #[.int .i64 N, .slice A m d], .slice A2 xs2.length c2]) ?_ rfl ?_
        · simp [results, Tryz.results23, go_sem, hfin]
        exact ⟨N, A, m, d, X, A2, c2, xs2, rfl, f1, hX, f5, by omega, f2⟩
set_option maxRecDepth 100000 in
set_option maxHeartbeats 4000000 in
theorem drawIsProperObstacle_any (B : Option Addr) (n c : Nat) (bs : List Int) (w : World) (hB : RB w B n bs) (hn : n ≤ 1048576) (hlow : ∀ ad, B = some ad → ad.block < w.heap.size) :
    Calls Tryz.prog 24 #[.slice B n c] w (BothP le6L w) := by
  have hU0 : Up w (w.alloc (.cells #[.int .i64 0, .slice none 0 0] 26)) := by go_grown
  have hR0 := Blk.new w 26 #[.int .i64 0, .slice none 0 0]
  have hs0 : (w.alloc (.cells #[.int .i64 0, .slice none 0 0] 26)).heap.size = w.heap.size + 1 := by simp
  obtain ⟨gr, hgr⟩ : ∃ gr, gr = w.heap.size := ⟨_, rfl⟩
  go_enter Tryz.func24, Tryz.ntmps24
  go_wp2_with fail
  refine (l1New_any B n c bs _ (hB.up hU0) hn (fun ad e => by have := hlow ad e; omega)).mono ?_
  rintro e w1 ⟨g, rfl, hC1, hb1, hg1⟩
  have hR1 := hR0.up hb1
  have hU1 := Up.then_ hU0 hb1
  rw [← hgr] at hR1 ⊢
  have hgr' : w.heap.size ≤ gr := by omega
  have hne : gr ≠ g := by omega
  have hlg : w.heap.size ≤ g := by omega
  clear hgr hR0 hs0 hb1 hg1 hU0
  go_wp2_with fail
  refine (l12Graph_any hC1).mono ?_
  rintro e w2 ⟨v, rfl, ⟨N, A, m, d, X, rfl, ho, hX⟩, hC2, hg2⟩
  have hlt := hC1.lt
  have hs2 := hg2.size
  have hR2 := hR1.grown hg2 (fun e => hne (by injection e))
  have hU2 := hU1.grown hg2 hU1.size (fun k hk => by injection hk with hk; omega)
  have hU3 : Up w2 (w2.alloc (.cells #[.int .i64 N, .slice A m d] 26)) := by go_grown
  have hltr := hR2.lt
  have I : DB w g B n c bs gr w2.heap.size N A m d X (w2.alloc (.cells #[.int .i64 N, .slice A m d] 26)) :=
    ⟨hC2.up hU3, hR2.up hU3, Blk.new _ _ _, (ho.more (by omega)).up hU3, Up.then_ hU2 hU3, hgr', hlg, hne, by omega, by omega⟩
  clear hR1 hU1 hC1 hR2 hU2 hU3 hC2 hg2 ho hltr
  obtain ⟨gb, hgb⟩ : ∃ gb, gb = w2.heap.size := ⟨_, rfl⟩
  rw [← hgb] at I
  go_wp2_with fail
  rw [← hgb]
  generalize w2.alloc (.cells #[.int .i64 N, .slice A m d] 26) = w3 at I ⊢
  clear hgb hs2 hlt
  have hm64 : m ≤ 9223372036854775807 := by have := I.own.cap; omega
  have hle := prObs_len7 N X
  have hlw := I.low
  have hy := I.box.two
  refine (specProperObstacle_any N A m d X w3 I.own.ri hm64).mono ?_
  rintro e w4 ⟨A1, c1, rfl, hO1, hb4⟩
  obtain ⟨xs1, hxs1⟩ : ∃ xs1, xs1 = optL (prObsOf N X) := ⟨_, rfl⟩
  obtain ⟨b1, hbb1⟩ : ∃ b1, b1 = (prObsOf N X).isSome := ⟨_, rfl⟩
  rw [← hxs1] at hO1 hle ⊢
  rw [← hbb1]
  replace hO1 := hO1.more (base' := g + 1) (by have := I.cur.lt; omega)
  replace I := I.up hb4
  clear hb4 hxs1 hbb1 hy
  cases b1
  · clear hO1 hle
    have hy := I.box.two
    have hlb := I.box.lt
    have hgs := I.cur.lt
    have hyr := I.res.two
    have hf0 := I.res.frozen 0
    have hf1 := I.res.frozen 1
    go_wp2_with fail
    go_region_with (refine (l4List_any (I.up (Below.drew (Up.refl _))).cur N A m d).mono ?_; rintro e w8 ⟨v, rfl, ⟨A3, c3, xs3, rfl, hO3, hl3⟩, hC8, hg8⟩; have I8 := (I.up (Below.drew (Up.refl _))).dr hC8 hg8; have hy8 := I8.box.two; have hyr8 := I8.res.two; have hf80 := I8.res.frozen 0; have hf81 := I8.res.frozen 1)
    all_goals
      replace hO3 := hO3.more (base' := w.heap.size) (by have := I.bel.size; show w.heap.size ≤ w4.heap.size; omega)
      clear hy hyr hf0 hf1
      obtain ⟨f1, f2, f3, f4⟩ := I8.fin
      have f5 := f4 _ _ _ _ hO3
      have hfin := f3.two
      clear I8 I f3 f4 hO3 hyr8 hf80 hf81 hy8
      go_wp2
      generalize (w8.setCell ⟨gr, 0, none⟩ (.int .i64 N)).setCell ⟨gr, 1, none⟩ (.slice A m d) = Wf at f1 f2 f5 hfin ⊢
      refine bodyPost_ret (v := .tuple #[.agg #[.int .i64 N, .slice A m d], .slice A3 xs3.length c3]) ?_ rfl ?_
      · simp [results, Tryz.results24, go_sem, hfin]
      exact ⟨N, A, m, d, X, A3, c3, xs3, rfl, f1, hX, f5, by omega, f2⟩
  · go_wp2_with fail
    refine (l1Once_any I.cur 3 (by omega) (by omega)).mono ?_
    rintro e w5 ⟨v, rfl, ⟨q, rfl⟩, hC5, hg5⟩
    replace I := I.dr hC5 hg5
    replace hO1 := hO1.far_gb hg5 (by omega)
    clear hC5 hg5
    cases q
    · have hy := I.box.two
      have hlb := I.box.lt
      have hyr := I.res.two
      have hf0 := I.res.frozen 0
      have hf1 := I.res.frozen 1
      have hlow := I.low
      obtain ⟨f1, f2, f3, f4⟩ := I.fin
      have f5 := f4 _ _ _ _ (hO1.more (base' := w.heap.size) (by omega))
      have hfin := f3.two
      clear I hO1 f3 f4
      go_wp2
      generalize (w5.setCell ⟨gr, 0, none⟩ (.int .i64 N)).setCell ⟨gr, 1, none⟩ (.slice A m d) = Wf at f1 f2 f5 hfin ⊢
      refine bodyPost_ret (v := .tuple #[.agg #[.int .i64 N, .slice A m d], .slice A1 xs1.length c1]) ?_ rfl ?_
      · simp [results, Tryz.results24, go_sem, hfin]
      exact ⟨N, A, m, d, X, A1, c1, xs1, rfl, f1, hX, f5, by omega, f2⟩
    · clear hO1 hle
      have hy := I.box.two
      have hlb := I.box.lt
      have hgs := I.cur.lt
      have hyr := I.res.two
      have hf0 := I.res.frozen 0
      have hf1 := I.res.frozen 1
      go_wp2_with fail
      go_region_with (refine (l4List_any (I.up (Below.drew (Up.refl _))).cur N A m d).mono ?_; rintro e w8 ⟨v, rfl, ⟨A3, c3, xs3, rfl, hO3, hl3⟩, hC8, hg8⟩; have I8 := (I.up (Below.drew (Up.refl _))).dr hC8 hg8; have hy8 := I8.box.two; have hyr8 := I8.res.two; have hf80 := I8.res.frozen 0; have hf81 := I8.res.frozen 1)
      all_goals
        replace hO3 := hO3.more (base' := w.heap.size) (by have := I.bel.size; show w.heap.size ≤ w5.heap.size; omega)
        clear hy hyr hf0 hf1
        obtain ⟨f1, f2, f3, f4⟩ := I8.fin
        have f5 := f4 _ _ _ _ hO3
        have hfin := f3.two
        clear I8 I f3 f4 hO3 hyr8 hf80 hf81 hy8
        go_wp2
        generalize (w8.setCell ⟨gr, 0, none⟩ (.int .i64 N)).setCell ⟨gr, 1, none⟩ (.slice A m d) = Wf at f1 f2 f5 hfin ⊢
        refine bodyPost_ret (v := .tuple #[.agg #[.int .i64 N, .slice A m d], .slice A3 xs3.length c3]) ?_ rfl ?_
        · simp [results, Tryz.results24, go_sem, hfin]
        exact ⟨N, A, m, d, X, A3, c3, xs3, rfl, f1, hX, f5, by omega, f2⟩
end Go.Proofs.YthncdjcmlpiebaaGreat
namespace Go.Proofs.YthncdjcmlpiebaaGreat
open Go.RowKit
/-- A graph of the call's own. -/
def DG (P : Int → List Int → Prop) (w : World) (e : Ending) (w' : World) : Prop := ∃ N A m d X, e = .returned (.agg #[.int .i64 N, .slice A m d]) ∧ OwnI w' w.heap.size A m d X ∧ P N X ∧ Below w.heap.size w w'
end Go.Proofs.YthncdjcmlpiebaaGreat
namespace Go.Proofs.YthncdjcmlpiebaaGreat
open Go.RowKit
end Go.Proofs.YthncdjcmlpiebaaGreat
namespace Go.Proofs.YthncdjcmlpiebaaGreat
open Go.RowKit
set_option maxRecDepth 100000 in
theorem drawUmbrellaOf_any (B : Option Addr) (n c : Nat) (bs : List Int) (w : World) (hB : RB w B n bs) (hn : n ≤ 1048576) (hlow : ∀ ad, B = some ad → ad.block < w.heap.size) :
    Calls Tryz.prog 6 #[.slice B n c] w (DG le6L w) := by
  have hU0 : Up w (w.alloc (.cells #[.int .i64 0, .slice none 0 0] 26)) := by go_grown
  have hR0 := Blk.new w 26 #[.int .i64 0, .slice none 0 0]
  have hs0 : (w.alloc (.cells #[.int .i64 0, .slice none 0 0] 26)).heap.size = w.heap.size + 1 := by simp
  obtain ⟨gr, hgr⟩ : ∃ gr, gr = w.heap.size := ⟨_, rfl⟩
  go_enter Tryz.func6, Tryz.ntmps6
  go_wp2_with fail
  refine (l1New_any B n c bs _ (hB.up hU0) hn (fun ad e => by have := hlow ad e; omega)).mono ?_
  rintro e w1 ⟨g, rfl, hC1, hb1, hg1⟩
  have hR1 := hR0.up hb1
  have hU1 := Up.then_ hU0 hb1
  rw [← hgr] at hR1 ⊢
  have hgr' : w.heap.size ≤ gr := by omega
  have hne : gr ≠ g := by omega
  clear hgr
  have hlt := hC1.lt
  go_wp2_with fail
  refine (l12Graph_any hC1).mono ?_
  rintro e w2 ⟨v, rfl, ⟨N, A, m, d, X, rfl, ho, hX⟩, hC2, hg2⟩
  have hR2 := hR1.grown hg2 (fun e => hne (by injection e))
  have hU2 := hU1.grown hg2 hU1.size (fun k hk => by injection hk with hk; omega)
  have ho2 := ho.more (base' := w.heap.size) (by omega)
  have hyr := hR2.two
  have hf0 := hR2.frozen 0
  have hf1 := hR2.frozen 1
  have fo := (ho2.other_store (i := 0) hR2 (by decide) (.int .i64 N)).other_store (i := 1) (hR2.set_ 0 (.int .i64 N)) (by decide) (.slice A m d)
  have fb := (hU2.setCell (p := ⟨gr, 0, none⟩) hgr' (.int .i64 N)).setCell (p := ⟨gr, 1, none⟩) hgr' (.slice A m d)
  have hfin := ((hR2.set_ 0 (.int .i64 N)).set_ 1 (.slice A m d)).two
  clear hR2 ho2 ho hU2 hC2 hR1 hC1 hg2 hU1 hb1 hU0 hR0
  go_wp2
  generalize (w2.setCell ⟨gr, 0, none⟩ (.int .i64 N)).setCell ⟨gr, 1, none⟩ (.slice A m d) = Wf at fo fb hfin ⊢
  refine bodyPost_ret (v := .agg #[.int .i64 N, .slice A m d]) ?_ rfl ?_
  · simp [results, Tryz.results6, go_sem, hfin]
  exact ⟨N, A, m, d, X, rfl, fo, hX, fb⟩
set_option maxRecDepth 100000 in
theorem drawBandOf_any (B : Option Addr) (n c : Nat) (bs : List Int) (w : World) (hB : RB w B n bs) (hn : n ≤ 1048576) (hlow : ∀ ad, B = some ad → ad.block < w.heap.size) :
    Calls Tryz.prog 25 #[.slice B n c] w (BothP le6L w) := by
  have hU0 : Up w (w.alloc (.cells #[.int .i64 0, .slice none 0 0] 26)) := by go_grown
  have hR0 := Blk.new w 26 #[.int .i64 0, .slice none 0 0]
  have hs0 : (w.alloc (.cells #[.int .i64 0, .slice none 0 0] 26)).heap.size = w.heap.size + 1 := by simp
  obtain ⟨gr, hgr⟩ : ∃ gr, gr = w.heap.size := ⟨_, rfl⟩
  go_enter Tryz.func25, Tryz.ntmps25
  go_wp2_with fail
  refine (drawIsUmbrella_any B n c bs _ (hB.up hU0) hn (fun ad e => by have := hlow ad e; omega)).mono ?_
  rintro e w1 ⟨N, A, m, d, X, A', d', xs, rfl, hO1, hX, hL1, hl, hb1⟩
  have hR1 := hR0.up hb1
  have hU1 := Up.then_ hU0 hb1
  have hs1 := hb1.size
  have hO2 := hO1.more (base' := w.heap.size) (by omega)
  have hL2 := hL1.more (base' := w.heap.size) (by omega)
  have hU3 : Up w1 (w1.alloc (.cells #[.int .i64 N, .slice A m d] 26)) := by go_grown
  have hy3 := (Blk.new w1 26 #[.int .i64 N, .slice A m d]).two
  have hR3 := hR1.up hU3
  have hO3 := hO2.up hU3
  have hL3 := hL2.up hU3
  have hU4 := Up.then_ hU1 hU3
  rw [← hgr] at hR3 ⊢
  have hgr' : w.heap.size ≤ gr := by omega
  have hne : gr ≠ w1.heap.size := by omega
  clear hgr
  generalize hw3 : w1.alloc (.cells #[.int .i64 N, .slice A m d] 26) = w3 at hy3 hR3 hO3 hL3 hU4
  clear hU3 hR1 hU1 hO1 hL1 hO2 hL2 hb1 hU0 hR0 hs1 hs0
  have hyr := hR3.two
  have hf0 := hR3.frozen 0
  have hf1 := hR3.frozen 1
  have fo := (hO3.other_store (i := 0) hR3 (by decide) (.int .i64 N)).other_store (i := 1) (hR3.set_ 0 (.int .i64 N)) (by decide) (.slice A m d)
  have fl := (hL3.other_store (i := 0) hR3 (by decide) (.int .i64 N)).other_store (i := 1) (hR3.set_ 0 (.int .i64 N)) (by decide) (.slice A m d)
  have fb := (hU4.setCell (p := ⟨gr, 0, none⟩) hgr' (.int .i64 N)).setCell (p := ⟨gr, 1, none⟩) hgr' (.slice A m d)
  have hfin := ((hR3.set_ 0 (.int .i64 N)).set_ 1 (.slice A m d)).two
  clear hR3 hO3 hL3 hU4
  go_wp2
  clear hw3
  generalize (w3.setCell ⟨gr, 0, none⟩ (.int .i64 N)).setCell ⟨gr, 1, none⟩ (.slice A m d) = Wf at fo fl fb hfin ⊢
  refine bodyPost_ret (v := .tuple #[.agg #[.int .i64 N, .slice A m d], .slice A' xs.length d']) ?_ rfl ?_
  · simp [results, Tryz.results25, go_sem, hfin]
  exact ⟨N, A, m, d, X, A', d', xs, rfl, fo, hX, fl, hl, fb⟩
end Go.Proofs.YthncdjcmlpiebaaGreat
namespace Go.Proofs.YthncdjcmlpiebaaGreat
open Go.RowKit
set_option maxRecDepth 100000 in
theorem sameModel_up {A C A' C' : Option Addr} {n m ca cc ca' cc' : Nat} {L R : List Int} {w : World} (hA : RI w A n L) (hC : RI w C m R) (hA' : RI w A' n L) (hC' : RI w C' m R) (hn : n ≤ 1048576) (hm : m ≤ 1048576) :
    Calls Tryz.prog 14 #[.agg #[.slice A n ca, .slice C m cc], .agg #[.slice A' n ca', .slice C' m cc']] w fun e w' => e = .returned (.bool true) ∧ Below w.heap.size w w' := by
  have hU0 : Up w ((w.alloc (.cells #[.slice A n ca, .slice C m cc] 31)).alloc (.cells #[.slice A' n ca', .slice C' m cc'] 31)) := by go_grown
  have hb2 := (Blk.new w 31 #[.slice A n ca, .slice C m cc]).alloc (.cells #[.slice A' n ca', .slice C' m cc'] 31)
  have hb3 : Blk ((w.alloc (.cells #[.slice A n ca, .slice C m cc] 31)).alloc (.cells #[.slice A' n ca', .slice C' m cc'] 31)) (w.heap.size + 1) 31 #[.slice A' n ca', .slice C' m cc'] := Blk.new_at (by simp)
  replace hA := hA.up hU0
  replace hC := hC.up hU0
  replace hA' := hA'.up hU0
  replace hC' := hC'.up hU0
  have hy2 := hb2.two
  have hy3 := hb3.two
  go_enter Tryz.func14, Tryz.ntmps14
  go_wp2_with fail
  refine (sameInts_up hA hA' hn).mono ?_
  rintro e w1 ⟨rfl, hb1⟩
  have hU1 : Up w w1 := Up.then_ hU0 hb1
  have hz2 := (hb2.up hb1).two
  have hz3 := (hb3.up hb1).two
  go_wp2_with fail
  refine (sameInts_up (hC.up hb1) (hC'.up hb1) hm).mono ?_
  rintro e w4 ⟨rfl, hb4⟩
  have hU4 : Up w w4 := Up.then_ hU1 hb4
  go_wp2
  go_ret
  exact ⟨rfl, hU4⟩
end Go.Proofs.YthncdjcmlpiebaaGreat
