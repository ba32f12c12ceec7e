/- Draws: a graph and an order. -/
import Derived.Test.YthncdjcmlpiebaaDrB
import Derived.Test.YthncdjcmlpiebaaW5A
import Derived.Test.YthncdjcmlpiebaaW6b
import Derived.Test.YthncdjcmlpiebaaW6A
import Derived.Deep.RegionWith
namespace Go.Proofs.Ythncdjcmlpiebaa
open Go.RowKit
/-- A drawn graph in a box, the cursor and the result beside. -/
structure DB (w : World) (g : Nat) (B : Option Addr) (n c : Nat) (bs : List Int) (gr gb : Nat) (N : Int) (A : Option Addr) (m d : Nat) (X : List Int) (wr : World) : Prop where
  cur : Cur wr g B n c bs
  res : Blk wr gr 26 #[.int .i64 0, .slice none 0 0]
  box : Blk wr gb 26 #[.int .i64 N, .slice A m d]
  own : OwnI wr (g + 1) A m d X
  bel : Below w.heap.size w wr
  hgr : w.heap.size ≤ gr
  low : w.heap.size ≤ g
  ne : gr ≠ g
  hgb : g < gb
  ne2 : gr ≠ gb
section
variable {w wr w' : World} {g n c gr gb m d : Nat} {B A : Option Addr} {bs X : List Int} {N : Int}
theorem DB.up (I : DB w g B n c bs gr gb N A m d X wr) (hb : Up wr w') : DB w g B n c bs gr gb N A m d X w' :=
  ⟨I.cur.up hb, I.res.up hb, I.box.up hb, I.own.up hb, Up.then_ I.bel hb, I.hgr, I.low, I.ne, I.hgb, I.ne2⟩
theorem DB.dr (I : DB w g B n c bs gr gb N A m d X wr) (hC : Cur w' g B n c bs) (hg : wr.grownBy w' (some g)) : DB w g B n c bs gr gb N A m d X w' :=
  ⟨hC, I.res.grown hg (fun e => I.ne (by injection e)), I.box.grown hg (fun e => by injection e with e; have := I.hgb; omega), I.own.far_gb hg (by omega), I.bel.grown hg I.bel.size (fun k hk => by injection hk with hk; have := I.low; omega), I.hgr, I.low, I.ne, I.hgb, I.ne2⟩
/-- The box's fields go into the result. -/
theorem DB.fin (I : DB w g B n c bs gr gb N A m d X wr) : OwnI ((wr.setCell ⟨gr, 0, none⟩ (.int .i64 N)).setCell ⟨gr, 1, none⟩ (.slice A m d)) w.heap.size A m d X ∧ Below w.heap.size w ((wr.setCell ⟨gr, 0, none⟩ (.int .i64 N)).setCell ⟨gr, 1, none⟩ (.slice A m d)) ∧ Blk ((wr.setCell ⟨gr, 0, none⟩ (.int .i64 N)).setCell ⟨gr, 1, none⟩ (.slice A m d)) gr 26 #[.int .i64 N, .slice A m d] ∧
    ∀ (A' : Option Addr) (k d' : Nat) (xs : List Int), OwnI wr w.heap.size A' k d' xs → OwnI ((wr.setCell ⟨gr, 0, none⟩ (.int .i64 N)).setCell ⟨gr, 1, none⟩ (.slice A m d)) w.heap.size A' k d' xs :=
  ⟨((I.own.more (base' := w.heap.size) (by have := I.low; omega)).other_store (i := 0) I.res (by decide) _).other_store (i := 1) (I.res.set_ 0 _) (by decide) _, (I.bel.setCell (p := ⟨gr, 0, none⟩) I.hgr _).setCell (p := ⟨gr, 1, none⟩) I.hgr _, (I.res.set_ 0 _).set_ 1 _,
    fun _ _ _ _ ho => (ho.other_store (i := 0) I.res (by decide) _).other_store (i := 1) (I.res.set_ 0 _) (by decide) _⟩
end
def Bothv (w : World) (e : Ending) (w' : World) : Prop := ∃ N A m d X A' d' xs, e = .returned (.tuple #[.agg #[.int .i64 N, .slice A m d], .slice A' xs.length d']) ∧ OwnI w' w.heap.size A m d X ∧ le6 N X ∧ OwnI w' w.heap.size A' xs.length d' xs ∧ xs.length ≤ 127 ∧ Below w.heap.size w w'
theorem elimOf_len7 {N : Int} {X : List Int} : (optL (elimOf N X)).length ≤ 127 := by
  rw [optL, ints_len]
  rcases he : elimOf N X with _ | o
  · simp
  · show o.length ≤ 127
    rcases isGraph_cases N X with hg | ⟨k, Q, rfl, rfl, h⟩
    · rw [elimOf_no hg] at he; cases he
    · exact (elimOf_len h he).2
theorem lexOf_len7 {N : Int} {X : List Int} {s : Int} : (optL (lexOf N X s)).length ≤ 127 ∧ ((lexOf N X s).isSome = true → 0 < (optL (lexOf N X s)).length) := by
  rw [optL, ints_len]
  rcases lexOf_cases N X s with ⟨hl, _⟩ | ⟨n, t, Q, rfl, rfl, rfl, h, ht⟩
  · rw [hl]; exact ⟨by simp, fun e => by cases e⟩
  · rw [lexOf_ok h ht]
    have := (lexR_order h ht).2
    have := h.le
    show (lexR Q n (n - 1) [t]).length ≤ 127 ∧ _
    exact ⟨by omega, fun _ => by show 0 < (lexR Q n (n - 1) [t]).length; omega⟩
set_option maxRecDepth 100000 in
set_option maxHeartbeats 4000000 in
theorem l6Both_any (B : Option Addr) (n c : Nat) (bs : List Int) (w : World) (hB : RB w B n bs) (hn : n ≤ 1048576) (hlow : ∀ ad, B = some ad → ad.block < w.heap.size) :
    Calls Try.prog 63 #[.slice B n c] w (Bothv w) := by
  have hU0 : Up w (w.alloc (.cells #[.int .i64 0, .slice none 0 0] 26)) := by go_grown
  have hR0 := Blk.new w 26 #[.int .i64 0, .slice none 0 0]
  have hs0 : (w.alloc (.cells #[.int .i64 0, .slice none 0 0] 26)).heap.size = w.heap.size + 1 := by simp
  obtain ⟨gr, hgr⟩ : ∃ gr, gr = w.heap.size := ⟨_, rfl⟩
  go_enter Try.func63, Try.ntmps63
  go_wp2_with fail
  refine (l1New_any B n c bs _ (hB.up hU0) hn (fun ad e => by have := hlow ad e; omega)).mono ?_
  rintro e w1 ⟨g, rfl, hC1, hb1, hg1⟩
  have hR1 := hR0.up hb1
  have hU1 := Up.then_ hU0 hb1
  rw [← hgr] at hR1 ⊢
  have hgr' : w.heap.size ≤ gr := by omega
  have hne : gr ≠ g := by omega
  have hlg : w.heap.size ≤ g := by omega
  clear hgr hR0 hs0 hb1 hg1 hU0
  go_wp2_with fail
  refine (l2Any_any hC1).mono ?_
  rintro e w2 ⟨v, rfl, ⟨N, A, m, d, X, rfl, ho, hX⟩, hC2, hg2⟩
  have hlt := hC1.lt
  have hs2 := hg2.size
  have hR2 := hR1.grown hg2 (fun e => hne (by injection e))
  have hU2 := hU1.grown hg2 hU1.size (fun k hk => by injection hk with hk; omega)
  have hU3 : Up w2 (w2.alloc (.cells #[.int .i64 N, .slice A m d] 26)) := by go_grown
  have hltr := hR2.lt
  have I : DB w g B n c bs gr w2.heap.size N A m d X (w2.alloc (.cells #[.int .i64 N, .slice A m d] 26)) :=
    ⟨hC2.up hU3, hR2.up hU3, Blk.new _ _ _, (ho.more (by omega)).up hU3, Up.then_ hU2 hU3, hgr', hlg, hne, by omega, by omega⟩
  clear hR1 hU1 hC1 hR2 hU2 hU3 hC2 hg2 ho hltr
  obtain ⟨gb, hgb⟩ : ∃ gb, gb = w2.heap.size := ⟨_, rfl⟩
  rw [← hgb] at I
  go_wp2_with fail
  rw [← hgb]
  generalize w2.alloc (.cells #[.int .i64 N, .slice A m d] 26) = w3 at I ⊢
  clear hgb
  have hm64 : m ≤ 9223372036854775807 := by have := I.own.cap; omega
  have hle := elimOf_len7 (N := N) (X := X)
  refine (specEliminationOf_any N A m d X w3 I.own.ri hm64).mono ?_
  rintro e w4 ⟨A1, c1, rfl, hO1, hb4⟩
  obtain ⟨xs1, hxs1⟩ : ∃ xs1, xs1 = optL (elimOf N X) := ⟨_, rfl⟩
  obtain ⟨b1, hbb1⟩ : ∃ b1, b1 = (elimOf N X).isSome := ⟨_, rfl⟩
  rw [← hxs1] at hO1 hle ⊢
  rw [← hbb1]
  replace hO1 := hO1.more (base' := g + 1) (by have := I.cur.lt; omega)
  replace I := I.up hb4
  clear hb4 hxs1 hbb1
  have hy := I.box.two
  have hlb := I.box.lt
  have hgs := I.cur.lt
  go_wp2_with fail
  have hDl := fun s => lexOf_len7 (N := N) (X := X) (s := s)
  go_region_with (first
    | (go_at_call 67; refine (l1Below_any (I.up (Below.drew (Up.refl _))).cur 3 (by omega) (by omega)).mono ?_; rintro e w5 ⟨v, rfl, ⟨x, rfl, hx⟩, hC5, hg5⟩; have I5 := (I.up (Below.drew (Up.refl _))).dr hC5 hg5; have hO5 := hO1.drew.far_gb hg5 (by omega); have hy5 := I5.box.two)
    | (go_at_call 87; refine (specLexOrder_any N (x : Int) A m d X _ I5.own.ri hm64).mono ?_; rintro e w6 ⟨A2, c2, rfl, hO2, hb6⟩; have I6 := I5.up hb6; have hO6 := hO5.up hb6; have hO2' := hO2.more (base' := g + 1) (by have := I5.cur.lt; omega); obtain ⟨xs2, hxs2⟩ : ∃ xs2, xs2 = optL (lexOf N X (x : Int)) := ⟨_, rfl⟩; obtain ⟨b2, hbb2⟩ : ∃ b2, b2 = (lexOf N X (x : Int)).isSome := ⟨_, rfl⟩; have hl2 := hDl (x : Int); rw [← hxs2, ← hbb2] at hl2 ⊢; rw [← hxs2] at hO2'; clear hxs2 hbb2 hx))
  clear hDl
  all_goals
    replace I := I6
    replace hO1 := hO6
    replace hO2 := hO2'
    clear I6 hO6 hO2' I5 hO5 hg5 hC5 hb6 hy5 hy hlb hgs w5
    cases b1
    · have hw6 := I.low
      cases b2
      · have hy := I.box.two
        have hlb := I.box.lt
        have hgs := I.cur.lt
        have hyr := I.res.two
        have hf0 := I.res.frozen 0
        have hf1 := I.res.frozen 1
        have hne2 := I.ne2
        go_wp2_with fail
        go_region_with (refine (l4List_any (I.up (Below.drew (Up.refl _))).cur N A m d).mono ?_; rintro e w8 ⟨v, rfl, ⟨A3, c3, xs3, rfl, hO3, hl3⟩, hC8, hg8⟩; have I8 := (I.up (Below.drew (Up.refl _))).dr hC8 hg8; have hy8 := I8.box.two; have hyr8 := I8.res.two; have hf80 := I8.res.frozen 0; have hf81 := I8.res.frozen 1)
        all_goals
          replace hO3 := hO3.more (base' := w.heap.size) (by have := I.bel.size; show w.heap.size ≤ w6.heap.size; omega)
          clear hy hyr hf0 hf1
          obtain ⟨f1, f2, f3, f4⟩ := I8.fin
          have f5 := f4 _ _ _ _ hO3
          have hfin := f3.two
          clear I8 I f3 f4 hO3 hyr8 hf80 hf81 hy8
          go_wp2
          generalize (w8.setCell ⟨gr, 0, none⟩ (.int .i64 N)).setCell ⟨gr, 1, none⟩ (.slice A m d) = Wf at f1 f2 f5 hfin ⊢
          refine bodyPost_ret (v := .tuple #[.agg #[.int .i64 N, .slice A m d], .slice A3 xs3.length c3]) ?_ rfl ?_
          · simp [results, Try.results63, go_sem, hfin]
          exact ⟨N, A, m, d, X, A3, c3, xs3, rfl, f1, hX, f5, by omega, f2⟩
      · obtain ⟨r2, rfl⟩ := hO2.form (hl2.2 rfl)
        have hy := I.box.two
        have hlb := I.box.lt
        have hgs := I.cur.lt
        have hyr := I.res.two
        have hf0 := I.res.frozen 0
        have hf1 := I.res.frozen 1
        have hne2 := I.ne2
        go_wp2_with fail
        go_region_with (refine ((l6Reverse_any _ _ c2 xs2 _ hO2.drew.ri (by omega)).mono fun _ _ h => h).mono ?_; rintro e w8 ⟨A3, c3, rfl, hO3, hb8⟩; have I8 := (I.up (Below.drew (Up.refl _))).up hb8; have hy8 := I8.box.two; have hyr8 := I8.res.two; have hf80 := I8.res.frozen 0; have hf81 := I8.res.frozen 1)
        all_goals
          replace hO3 := hO3.more (base' := w.heap.size) (by have := I.bel.size; show w.heap.size ≤ w6.heap.size; omega)
          clear hy hyr hf0 hf1
          obtain ⟨f1, f2, f3, f4⟩ := I8.fin
          have f5 := f4 _ _ _ _ hO3
          have hfin := f3.two
          clear I8 I f3 f4 hO3 hyr8 hf80 hf81 hy8
          go_wp2
          generalize (w8.setCell ⟨gr, 0, none⟩ (.int .i64 N)).setCell ⟨gr, 1, none⟩ (.slice A m d) = Wf at f1 f2 f5 hfin ⊢
          refine bodyPost_ret (v := .tuple #[.agg #[.int .i64 N, .slice A m d], .slice A3 xs2.reverse.length c3]) ?_ rfl ?_
          · simp [results, Try.results63, go_sem, hfin]
          exact ⟨N, A, m, d, X, A3, c3, xs2.reverse, rfl, f1, hX, f5, by rw [List.length_reverse]; omega, f2⟩
    · go_wp2_with fail
      refine (l1Once_any I.cur 2 (by omega) (by omega)).mono ?_
      rintro e w7 ⟨v, rfl, ⟨b, rfl⟩, hC7, hg7⟩
      replace I := I.dr hC7 hg7
      replace hO1 := hO1.far_gb hg7 (by omega)
      replace hO2 := hO2.far_gb hg7 (by omega)
      clear hC7 hg7
      cases b
      · have hw6 := I.low
        cases b2
        · have hy := I.box.two
          have hlb := I.box.lt
          have hgs := I.cur.lt
          have hyr := I.res.two
          have hf0 := I.res.frozen 0
          have hf1 := I.res.frozen 1
          have hne2 := I.ne2
          go_wp2_with fail
          go_region_with (refine (l4List_any (I.up (Below.drew (Up.refl _))).cur N A m d).mono ?_; rintro e w8 ⟨v, rfl, ⟨A3, c3, xs3, rfl, hO3, hl3⟩, hC8, hg8⟩; have I8 := (I.up (Below.drew (Up.refl _))).dr hC8 hg8; have hy8 := I8.box.two; have hyr8 := I8.res.two; have hf80 := I8.res.frozen 0; have hf81 := I8.res.frozen 1)
          all_goals
            replace hO3 := hO3.more (base' := w.heap.size) (by have := I.bel.size; show w.heap.size ≤ w7.heap.size; omega)
            clear hy hyr hf0 hf1
            obtain ⟨f1, f2, f3, f4⟩ := I8.fin
            have f5 := f4 _ _ _ _ hO3
            have hfin := f3.two
            clear I8 I f3 f4 hO3 hyr8 hf80 hf81 hy8
            go_wp2
            generalize (w8.setCell ⟨gr, 0, none⟩ (.int .i64 N)).setCell ⟨gr, 1, none⟩ (.slice A m d) = Wf at f1 f2 f5 hfin ⊢
            refine bodyPost_ret (v := .tuple #[.agg #[.int .i64 N, .slice A m d], .slice A3 xs3.length c3]) ?_ rfl ?_
            · simp [results, Try.results63, go_sem, hfin]
            exact ⟨N, A, m, d, X, A3, c3, xs3, rfl, f1, hX, f5, by omega, f2⟩
        · obtain ⟨r2, rfl⟩ := hO2.form (hl2.2 rfl)
          have hy := I.box.two
          have hlb := I.box.lt
          have hgs := I.cur.lt
          have hyr := I.res.two
          have hf0 := I.res.frozen 0
          have hf1 := I.res.frozen 1
          have hne2 := I.ne2
          go_wp2_with fail
          go_region_with (refine ((l6Reverse_any _ _ c2 xs2 _ hO2.drew.ri (by omega)).mono fun _ _ h => h).mono ?_; rintro e w8 ⟨A3, c3, rfl, hO3, hb8⟩; have I8 := (I.up (Below.drew (Up.refl _))).up hb8; have hy8 := I8.box.two; have hyr8 := I8.res.two; have hf80 := I8.res.frozen 0; have hf81 := I8.res.frozen 1)
          all_goals
            replace hO3 := hO3.more (base' := w.heap.size) (by have := I.bel.size; show w.heap.size ≤ w7.heap.size; omega)
            clear hy hyr hf0 hf1
            obtain ⟨f1, f2, f3, f4⟩ := I8.fin
            have f5 := f4 _ _ _ _ hO3
            have hfin := f3.two
            clear I8 I f3 f4 hO3 hyr8 hf80 hf81 hy8
            go_wp2
            generalize (w8.setCell ⟨gr, 0, none⟩ (.int .i64 N)).setCell ⟨gr, 1, none⟩ (.slice A m d) = Wf at f1 f2 f5 hfin ⊢
            refine bodyPost_ret (v := .tuple #[.agg #[.int .i64 N, .slice A m d], .slice A3 xs2.reverse.length c3]) ?_ rfl ?_
            · simp [results, Try.results63, go_sem, hfin]
            exact ⟨N, A, m, d, X, A3, c3, xs2.reverse, rfl, f1, hX, f5, by rw [List.length_reverse]; omega, f2⟩
      · have hw6 := I.low
        have hy := I.box.two
        have hlb := I.box.lt
        have hyr := I.res.two
        have hf0 := I.res.frozen 0
        have hf1 := I.res.frozen 1
        have hne2 := I.ne2
        obtain ⟨f1, f2, f3, f4⟩ := I.fin
        have f5 := f4 _ _ _ _ (hO1.more (base' := w.heap.size) (by have := I.low; omega))
        have hfin := f3.two
        clear I f3 f4 hO1 hO2
        go_wp2
        generalize (w7.setCell ⟨gr, 0, none⟩ (.int .i64 N)).setCell ⟨gr, 1, none⟩ (.slice A m d) = Wf at f1 f2 f5 hfin ⊢
        refine bodyPost_ret (v := .tuple #[.agg #[.int .i64 N, .slice A m d], .slice A1 xs1.length c1]) ?_ rfl ?_
        · simp [results, Try.results63, go_sem, hfin]
        exact ⟨N, A, m, d, X, A1, c1, xs1, rfl, f1, hX, f5, hle, f2⟩
end Go.Proofs.Ythncdjcmlpiebaa
