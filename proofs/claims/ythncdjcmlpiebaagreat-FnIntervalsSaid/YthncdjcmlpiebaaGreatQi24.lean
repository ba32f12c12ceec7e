/- Draws: a graph and three vertices. Draws: an order of cliques and a number; a graph and intervals. Rows of rows of numbers that are the call's own. Results that are rows of rows: held one against the other, marked, read. Helpers of the great laws: the same rows in two slices; a byte of the code. Helpers of the great laws: the same intervals in two structs. -/
import Derived.Test.YthncdjcmlpiebaaGreatQi01
import Derived.Test.YthncdjcmlpiebaaGreatQi03
import Derived.Test.YthncdjcmlpiebaaGreatQi05
import Derived.Test.YthncdjcmlpiebaaGreatQi10
import Derived.Test.YthncdjcmlpiebaaGreatQi12
import Derived.Test.YthncdjcmlpiebaaGreatQi15
import Derived.Test.YthncdjcmlpiebaaGreatQi22
import Derived.Test.YthncdjcmlpiebaaGreatQi23
namespace Go.Proofs.YthncdjcmlpiebaaGreat
open Go.RowKit
/-- A graph and three numbers. -/
def FourP (P : Int → List Int → Prop) (w : World) (e : Ending) (w' : World) : Prop := ∃ N A m d X a b c, e = .returned (.tuple #[.agg #[.int .i64 N, .slice A m d], .int .i64 a, .int .i64 b, .int .i64 c]) ∧ OwnI w' w.heap.size A m d X ∧ P N X ∧ Below w.heap.size w w'
set_option maxRecDepth 100000 in
theorem trip_three {N : Int} {X : List Int} (h : (tripOf N X).isSome = true) : ∃ a b c : Int, optL (tripOf N X) = [a, b, c] := by
  obtain ⟨r, hr⟩ := Option.isSome_iff_exists.1 h
  rcases graph_cases N X with hg | ⟨n, Q, rfl, rfl, hk⟩
  · rw [tripOf_no hg] at hr; cases hr
  · obtain ⟨a, b, c, rfl, _⟩ := tripOf_some hk hr
    exact ⟨a, b, c, by rw [hr]; rfl⟩
set_option maxRecDepth 100000 in
theorem OwnI.three {w : World} {base g c : Nat} {x y z : Int} (h : OwnI w base (some ⟨g, 0, none⟩) 3 c [x, y, z]) : w.cell? ⟨g, 0, none⟩ = some (.int .i64 x) ∧ w.cell? ⟨g, 1, none⟩ = some (.int .i64 y) ∧ w.cell? ⟨g, 2, none⟩ = some (.int .i64 z) := by
  refine ⟨?_, ?_, ?_⟩
  · obtain ⟨ad, e, _, hc⟩ := h.ri.at_ (k := 0) (by omega)
    injection e with e; subst e; exact hc
  · obtain ⟨ad, e, _, hc⟩ := h.ri.at_ (k := 1) (by omega)
    injection e with e; subst e; exact hc
  · obtain ⟨ad, e, _, hc⟩ := h.ri.at_ (k := 2) (by omega)
    injection e with e; subst e; exact hc
set_option maxRecDepth 100000 in
set_option maxHeartbeats 4000000 in
theorem l11Four_any (B : Option Addr) (n c : Nat) (bs : List Int) (w : World) (hB : RB w B n bs) (hn : n ≤ 1048576) (hlow : ∀ ad, B = some ad → ad.block < w.heap.size) :
    Calls Tryz.prog 103 #[.slice B n c] w (FourP le6L w) := by
  have hU0 : Up w (w.alloc (.cells #[.int .i64 0, .slice none 0 0] 26)) := by go_grown
  have hR0 := Blk.new w 26 #[.int .i64 0, .slice none 0 0]
  have hs0 : (w.alloc (.cells #[.int .i64 0, .slice none 0 0] 26)).heap.size = w.heap.size + 1 := by simp
  obtain ⟨gr, hgr⟩ : ∃ gr, gr = w.heap.size := ⟨_, rfl⟩
  go_enter Tryz.func103, Tryz.ntmps103
  go_wp2_with fail
  refine (l1New_any B n c bs _ (hB.up hU0) hn (fun ad e => by have := hlow ad e; omega)).mono ?_
  rintro e w1 ⟨g, rfl, hC1, hb1, hg1⟩
  have hR1 := hR0.up hb1
  have hU1 := Up.then_ hU0 hb1
  rw [← hgr] at hR1 ⊢
  have hgr' : w.heap.size ≤ gr := by omega
  have hne : gr ≠ g := by omega
  have hlg : w.heap.size ≤ g := by omega
  clear hgr hR0 hs0 hb1 hg1 hU0
  go_wp2_with fail
  refine (l11Graph_any hC1).mono ?_
  rintro e w2 ⟨v, rfl, ⟨N, A, m, d, X, rfl, ho, hX⟩, hC2, hg2⟩
  have hlt := hC1.lt
  have hs2 := hg2.size
  have hR2 := hR1.grown hg2 (fun e => hne (by injection e))
  have hU2 := hU1.grown hg2 hU1.size (fun k hk => by injection hk with hk; omega)
  have hU3 : Up w2 (w2.alloc (.cells #[.int .i64 N, .slice A m d] 26)) := by go_grown
  have hltr := hR2.lt
  have I : DB w g B n c bs gr w2.heap.size N A m d X (w2.alloc (.cells #[.int .i64 N, .slice A m d] 26)) :=
    ⟨hC2.up hU3, hR2.up hU3, Blk.new _ _ _, (ho.more (by omega)).up hU3, Up.then_ hU2 hU3, hgr', hlg, hne, by omega, by omega⟩
  clear hR1 hU1 hC1 hR2 hU2 hU3 hC2 hg2 ho hltr
  obtain ⟨gb, hgb⟩ : ∃ gb, gb = w2.heap.size := ⟨_, rfl⟩
  rw [← hgb] at I
  go_wp2_with fail
  rw [← hgb]
  generalize w2.alloc (.cells #[.int .i64 N, .slice A m d] 26) = w3 at I ⊢
  clear hgb hs2 hlt
  have hm64 : m ≤ 9223372036854775807 := by have := I.own.cap; omega
  have hlw := I.low
  refine (specFindTriple_any N A m d X w3 I.own.ri hm64).mono ?_
  rintro e w4 ⟨A1, c1, rfl, hO1, hb4⟩
  have H3 := Lib.hid (show (tripOf N X).isSome = true → ∃ a b c : Int, optL (tripOf N X) = [a, b, c] from trip_three)
  obtain ⟨xs1, hxs1⟩ : ∃ xs1, xs1 = optL (tripOf N X) := ⟨_, rfl⟩
  obtain ⟨b1, hbb1⟩ : ∃ b1, b1 = (tripOf N X).isSome := ⟨_, rfl⟩
  rw [← hxs1] at hO1 ⊢
  rw [← hbb1]
  rw [← hxs1, ← hbb1] at H3
  replace hO1 := hO1.more (base' := g + 1) (by have := I.cur.lt; omega)
  replace I := I.up hb4
  clear hb4 hxs1 hbb1
  cases b1
  · clear hO1 H3
    go_wp2_with fail
    refine (l1Below_any I.cur 7 (by omega) (by omega)).mono ?_
    rintro e w11 ⟨v, rfl, ⟨xa, rfl, hxa⟩, hC11, hg11⟩
    replace I := I.dr hC11 hg11
    clear hC11 hg11
    go_wp2_with fail
    refine (l1Below_any I.cur 2 (by omega) (by omega)).mono ?_
    rintro e w12 ⟨v, rfl, ⟨xb, rfl, hxb⟩, hC12, hg12⟩
    replace I := I.dr hC12 hg12
    clear hC12 hg12
    go_wp2_with fail
    refine (l1Below_any I.cur 2 (by omega) (by omega)).mono ?_
    rintro e w13 ⟨v, rfl, ⟨xc, rfl, hxc⟩, hC13, hg13⟩
    replace I := I.dr hC13 hg13
    clear hC13 hg13
    obtain ⟨p, hp⟩ : ∃ p, wrap64 ((xb : Int) * (xc : Int)) = p := ⟨_, rfl⟩
    obtain ⟨q, hq⟩ : ∃ q, wrap64 ((xa : Int) - p) = q := ⟨_, rfl⟩
    go_wp2_with fail
    refine (l1Below_any I.cur 7 (by omega) (by omega)).mono ?_
    rintro e w14 ⟨v, rfl, ⟨xd, rfl, hxd⟩, hC14, hg14⟩
    replace I := I.dr hC14 hg14
    clear hC14 hg14 hp hxa hxb hxc
    have hy := I.box.two
    have hlb := I.box.lt
    have hgs := I.cur.lt
    have hyr := I.res.two
    have hf0 := I.res.frozen 0
    have hf1 := I.res.frozen 1
    go_wp2_with fail
    go_region_with (refine (l1Below_any (I.up (Below.drew (Up.refl _))).cur 7 (by omega) (by omega)).mono ?_; rintro e w15 ⟨v, rfl, ⟨xe, rfl, hxe⟩, hC15, hg15⟩; have I15 := (I.up (Below.drew (Up.refl _))).dr hC15 hg15; have hy15 := I15.box.two; have hyr15 := I15.res.two; have hf150 := I15.res.frozen 0; have hf151 := I15.res.frozen 1)
    all_goals
      clear hy hyr hf0 hf1
      obtain ⟨f1, f2, f3, f4⟩ := I15.fin
      have hfin := f3.two
      clear I15 I f3 f4 hyr15 hf150 hf151 hy15 hC15 hg15
      go_wp2
      generalize (w15.setCell ⟨gr, 0, none⟩ (.int .i64 N)).setCell ⟨gr, 1, none⟩ (.slice A m d) = Wf at f1 f2 hfin ⊢
      refine bodyPost_ret (v := .tuple #[.agg #[.int .i64 N, .slice A m d], .int .i64 q, .int .i64 (xd : Nat), .int .i64 (xe : Nat)]) ?_ rfl ?_
      · simp [results, Tryz.results103, go_sem, hfin]
      exact ⟨N, A, m, d, X, q, xd, xe, rfl, f1, hX, f2⟩
  · go_wp2_with fail
    refine (l1Once_any I.cur 3 (by omega) (by omega)).mono ?_
    rintro e w5 ⟨v, rfl, ⟨q, rfl⟩, hC5, hg5⟩
    replace I := I.dr hC5 hg5
    replace hO1 := hO1.far_gb hg5 (by omega)
    clear hC5 hg5
    cases q
    · obtain ⟨ta, tb, tc, e3⟩ := H3.out trivial
      clear H3
      subst e3
      obtain ⟨g1, rfl⟩ := hO1.form (by simp)
      obtain ⟨h30, h31, h32⟩ := hO1.three
      have hl1 := (hO1.block g1 rfl).2
      obtain ⟨hy0, hy1⟩ := I.box.two
      have hlb := I.box.lt
      have Id := I.up (w' := w5.drew) (Below.drew (Up.refl _))
      have hO1d : OwnI w5.drew (g + 1) (some ⟨g1, 0, none⟩) 3 c1 [ta, tb, tc] := hO1.drew
      have hSb := ((Id.box.far (p := ⟨gr, 0, none⟩) (Ne.symm I.ne2) (.int .i64 N)).far (p := ⟨gr, 1, none⟩) (Ne.symm I.ne2) (.slice A m d)).two
      have hSl := ((hO1d.other_store (i := 0) Id.res (by decide) (.int .i64 N)).other_store (i := 1) (Id.res.set_ 0 (.int .i64 N)) (by decide) (.slice A m d)).three
      have hyr := I.res.two
      have hf0 := I.res.frozen 0
      have hf1 := I.res.frozen 1
      obtain ⟨f1, f2, f3, f4⟩ := I.fin
      replace f1 := f1.drew
      replace f2 := f2.drew
      have hfin := f3.drew.two
      clear I Id hO1 hO1d f3 f4
      simp only [List.length_cons, List.length_nil]
      go_wp2_with fail
      have hV0 : Up w5 w5.drew := (Up.refl _).drew
      refine wp_region_held_drew (S := (fun w' => w'.cell? (⟨gb, 0, none⟩) = some (.int .i64 N) ∧ w'.cell? (⟨gb, 1, none⟩) = some (.slice A m d) ∧ w'.cell? (⟨g1, 0, none⟩) = some (.int .i64 ta) ∧ w'.cell? (⟨g1, 1, none⟩) = some (.int .i64 tb) ∧ w'.cell? (⟨g1, 2, none⟩) = some (.int .i64 tc))) (by kernel_rfl) (by exact ⟨(hV0.cell (by first | assumption | (rw [block_of_add]; assumption))).trans (by assumption), (hV0.cell (by first | assumption | (rw [block_of_add]; assumption))).trans (by assumption), (hV0.cell (by first | assumption | (rw [block_of_add]; assumption))).trans (by assumption), (hV0.cell (by first | assumption | (rw [block_of_add]; assumption))).trans (by assumption), (hV0.cell (by first | assumption | (rw [block_of_add]; assumption))).trans (by assumption)⟩) (fun hHeld => ?_)
      refine wpAnyH_take (i := 0) (v := ?_) rfl (by kernel_rfl) (by kernel_rfl) (by kernel_rfl) (fun _ _ _ h => h) (Or.inl ⟨by rfl, ?_⟩) (by assumption) ?_
      rotate_left
      · (intro w' hSw; go_simp; try with_reducible rfl)
      (try simp only [List.getElem_toArray]); (try simp only [List.getElem_cons_succ]); (try simp only [List.getElem_cons_zero]); (try simp only [Act.put]); (try simp only [List.setIfInBounds_toArray]); (try simp only [List.set_cons_succ]); (try simp only [List.set_cons_zero])
      refine wpAnyH_take (i := 1) (v := ?_) rfl (by kernel_rfl) (by kernel_rfl) (by kernel_rfl) (fun _ _ _ h => h) (Or.inl ⟨by rfl, ?_⟩) (by assumption) ?_
      rotate_left
      · (intro w' hSw; go_simp; try with_reducible rfl)
      (try simp only [List.getElem_toArray]); (try simp only [List.getElem_cons_succ]); (try simp only [List.getElem_cons_zero]); (try simp only [Act.put]); (try simp only [List.setIfInBounds_toArray]); (try simp only [List.set_cons_succ]); (try simp only [List.set_cons_zero])
      refine wpAnyH_take (i := 2) (v := ?_) rfl (by kernel_rfl) (by kernel_rfl) (by kernel_rfl) (fun _ _ _ h => h) (Or.inl ⟨by rfl, ?_⟩) (by assumption) ?_
      rotate_left
      · (intro w' hSw; go_simp; try with_reducible rfl)
      (try simp only [List.getElem_toArray]); (try simp only [List.getElem_cons_succ]); (try simp only [List.getElem_cons_zero]); (try simp only [Act.put]); (try simp only [List.setIfInBounds_toArray]); (try simp only [List.set_cons_succ]); (try simp only [List.set_cons_zero])
      refine wpAnyH_take (i := 3) (v := ?_) rfl (by kernel_rfl) (by kernel_rfl) (by kernel_rfl) (fun _ _ _ h => h) (Or.inl ⟨by rfl, ?_⟩) (by assumption) ?_
      rotate_left
      · (intro w' hSw; go_simp; try with_reducible rfl)
      (try simp only [List.getElem_toArray]); (try simp only [List.getElem_cons_succ]); (try simp only [List.getElem_cons_zero]); (try simp only [Act.put]); (try simp only [List.setIfInBounds_toArray]); (try simp only [List.set_cons_succ]); (try simp only [List.set_cons_zero])
      refine wpAnyH_take (i := 4) (v := ?_) rfl (by kernel_rfl) (by kernel_rfl) (by kernel_rfl) (fun _ _ _ h => h) (Or.inl ⟨by rfl, ?_⟩) (by assumption) ?_
      rotate_left
      · (intro w' hSw; go_simp; try with_reducible rfl)
      (try simp only [List.getElem_toArray]); (try simp only [List.getElem_cons_succ]); (try simp only [List.getElem_cons_zero]); (try simp only [Act.put]); (try simp only [List.setIfInBounds_toArray]); (try simp only [List.set_cons_succ]); (try simp only [List.set_cons_zero])
      refine wpAnyH_take (i := 5) (v := ?_) rfl (by kernel_rfl) (by kernel_rfl) (by kernel_rfl) (fun _ _ _ h => h) (Or.inl ⟨by rfl, ?_⟩) (by assumption) ?_
      rotate_left
      · (intro w' hSw; go_simp; try with_reducible rfl)
      (try simp only [List.getElem_toArray]); (try simp only [List.getElem_cons_succ]); (try simp only [List.getElem_cons_zero]); (try simp only [Act.put]); (try simp only [List.setIfInBounds_toArray]); (try simp only [List.set_cons_succ]); (try simp only [List.set_cons_zero])
      refine wpAnyH_take (i := 6) (v := ?_) rfl (by kernel_rfl) (by kernel_rfl) (by kernel_rfl) (fun _ _ _ h => h) (Or.inl ⟨by rfl, ?_⟩) (by assumption) ?_
      rotate_left
      · (intro w' hSw; go_simp; try with_reducible rfl)
      (try simp only [List.getElem_toArray]); (try simp only [List.getElem_cons_succ]); (try simp only [List.getElem_cons_zero]); (try simp only [Act.put]); (try simp only [List.setIfInBounds_toArray]); (try simp only [List.set_cons_succ]); (try simp only [List.set_cons_zero])
      refine wpAnyH_take (i := 7) (v := ?_) rfl (by kernel_rfl) (by kernel_rfl) (by kernel_rfl) (fun _ _ _ h => h) (Or.inl ⟨by rfl, ?_⟩) (by assumption) ?_
      rotate_left
      · (intro w' hSw; go_simp; try with_reducible rfl)
      (try simp only [List.getElem_toArray]); (try simp only [List.getElem_cons_succ]); (try simp only [List.getElem_cons_zero]); (try simp only [Act.put]); (try simp only [List.setIfInBounds_toArray]); (try simp only [List.set_cons_succ]); (try simp only [List.set_cons_zero])
      refine wpAnyH_take (i := 8) (v := ?_) rfl (by kernel_rfl) (by kernel_rfl) (by kernel_rfl) (fun _ _ _ h => h) (Or.inl ⟨by rfl, ?_⟩) (by assumption) ?_
      rotate_left
      · (intro w' hSw; go_simp; try with_reducible rfl)
      (try simp only [List.getElem_toArray]); (try simp only [List.getElem_cons_succ]); (try simp only [List.getElem_cons_zero]); (try simp only [Act.put]); (try simp only [List.setIfInBounds_toArray]); (try simp only [List.set_cons_succ]); (try simp only [List.set_cons_zero])
      refine wpAnyH_take (i := 9) (v := ?_) rfl (by kernel_rfl) (by kernel_rfl) (by kernel_rfl) (fun _ _ _ h => h) (Or.inl ⟨by rfl, ?_⟩) (by assumption) ?_
      rotate_left
      · (intro w' hSw; go_simp; try with_reducible rfl)
      (try simp only [List.getElem_toArray]); (try simp only [List.getElem_cons_succ]); (try simp only [List.getElem_cons_zero]); (try simp only [Act.put]); (try simp only [List.setIfInBounds_toArray]); (try simp only [List.set_cons_succ]); (try simp only [List.set_cons_zero])
      refine wpAnyH_ready (rs := [10]) (by kernel_rfl) (by simp) ?_
      refine AllReadyH.cons rfl (fun K hK => ?_) AllReadyH.nil
      go_simp
      refine hK.out _ _ (⟨hSb.1, hSb.2, hSl.1, hSl.2.1, hSl.2.2⟩) (fun hHeldw10 => ?_)
      clear hK K
      (try simp only [List.getElem_toArray]); (try simp only [List.getElem_cons_succ]); (try simp only [List.getElem_cons_zero]); (try simp only [Act.put]); (try simp only [List.setIfInBounds_toArray]); (try simp only [List.set_cons_succ]); (try simp only [List.set_cons_zero])
      refine wpAnyH_take (i := 11) (v := ?_) rfl (by kernel_rfl) (by kernel_rfl) (by kernel_rfl) (fun _ _ _ h => h) (Or.inl ⟨by rfl, ?_⟩) (by assumption) ?_
      rotate_left
      · (intro w' hSw; go_simp; try with_reducible rfl)
      (try simp only [List.getElem_toArray]); (try simp only [List.getElem_cons_succ]); (try simp only [List.getElem_cons_zero]); (try simp only [Act.put]); (try simp only [List.setIfInBounds_toArray]); (try simp only [List.set_cons_succ]); (try simp only [List.set_cons_zero])
      refine wpAnyH_take (i := 12) (v := ?_) rfl (by kernel_rfl) (by kernel_rfl) (by kernel_rfl) (fun _ _ _ h => h) (Or.inl ⟨by rfl, ?_⟩) (by assumption) ?_
      rotate_left
      · (intro w' hSw; go_simp; try with_reducible rfl)
      (try simp only [List.getElem_toArray]); (try simp only [List.getElem_cons_succ]); (try simp only [List.getElem_cons_zero]); (try simp only [Act.put]); (try simp only [List.setIfInBounds_toArray]); (try simp only [List.set_cons_succ]); (try simp only [List.set_cons_zero])
      refine wpAnyH_take (i := 13) (v := ?_) rfl (by kernel_rfl) (by kernel_rfl) (by kernel_rfl) (fun _ _ _ h => h) (Or.inl ⟨by rfl, ?_⟩) (by assumption) ?_
      rotate_left
      · (intro w' hSw; go_simp; try with_reducible rfl)
      (try simp only [List.getElem_toArray]); (try simp only [List.getElem_cons_succ]); (try simp only [List.getElem_cons_zero]); (try simp only [Act.put]); (try simp only [List.setIfInBounds_toArray]); (try simp only [List.set_cons_succ]); (try simp only [List.set_cons_zero])
      refine wpAnyH_done (by kernel_rfl) ?_ _
      have hU6 := hV0
      clear hV0 hHeld hHeldw10 hU6 hSb hSl hyr hf0 hf1
      go_wp2
      generalize ((w5.setCell ⟨gr, 0, none⟩ (.int .i64 N)).setCell ⟨gr, 1, none⟩ (.slice A m d)).drew = Wf at f1 f2 hfin ⊢
      refine bodyPost_ret (v := .tuple #[.agg #[.int .i64 N, .slice A m d], .int .i64 ta, .int .i64 tb, .int .i64 tc]) ?_ rfl ?_
      · simp [results, Tryz.results103, go_sem, hfin]
      exact ⟨N, A, m, d, X, ta, tb, tc, rfl, f1, hX, f2⟩
    · clear hO1 H3
      go_wp2_with fail
      refine (l1Below_any I.cur 7 (by omega) (by omega)).mono ?_
      rintro e w11 ⟨v, rfl, ⟨xa, rfl, hxa⟩, hC11, hg11⟩
      replace I := I.dr hC11 hg11
      clear hC11 hg11
      go_wp2_with fail
      refine (l1Below_any I.cur 2 (by omega) (by omega)).mono ?_
      rintro e w12 ⟨v, rfl, ⟨xb, rfl, hxb⟩, hC12, hg12⟩
      replace I := I.dr hC12 hg12
      clear hC12 hg12
      go_wp2_with fail
      refine (l1Below_any I.cur 2 (by omega) (by omega)).mono ?_
      rintro e w13 ⟨v, rfl, ⟨xc, rfl, hxc⟩, hC13, hg13⟩
      replace I := I.dr hC13 hg13
      clear hC13 hg13
      obtain ⟨p, hp⟩ : ∃ p, wrap64 ((xb : Int) * (xc : Int)) = p := ⟨_, rfl⟩
      obtain ⟨q, hq⟩ : ∃ q, wrap64 ((xa : Int) - p) = q := ⟨_, rfl⟩
      go_wp2_with fail
      refine (l1Below_any I.cur 7 (by omega) (by omega)).mono ?_
      rintro e w14 ⟨v, rfl, ⟨xd, rfl, hxd⟩, hC14, hg14⟩
      replace I := I.dr hC14 hg14
      clear hC14 hg14 hp hxa hxb hxc
      have hy := I.box.two
      have hlb := I.box.lt
      have hgs := I.cur.lt
      have hyr := I.res.two
      have hf0 := I.res.frozen 0
      have hf1 := I.res.frozen 1
      go_wp2_with fail
      go_region_with (refine (l1Below_any (I.up (Below.drew (Up.refl _))).cur 7 (by omega) (by omega)).mono ?_; rintro e w15 ⟨v, rfl, ⟨xe, rfl, hxe⟩, hC15, hg15⟩; have I15 := (I.up (Below.drew (Up.refl _))).dr hC15 hg15; have hy15 := I15.box.two; have hyr15 := I15.res.two; have hf150 := I15.res.frozen 0; have hf151 := I15.res.frozen 1)
      all_goals
        clear hy hyr hf0 hf1
        obtain ⟨f1, f2, f3, f4⟩ := I15.fin
        have hfin := f3.two
        clear I15 I f3 f4 hyr15 hf150 hf151 hy15 hC15 hg15
        go_wp2
        generalize (w15.setCell ⟨gr, 0, none⟩ (.int .i64 N)).setCell ⟨gr, 1, none⟩ (.slice A m d) = Wf at f1 f2 hfin ⊢
        refine bodyPost_ret (v := .tuple #[.agg #[.int .i64 N, .slice A m d], .int .i64 q, .int .i64 (xd : Nat), .int .i64 (xe : Nat)]) ?_ rfl ?_
        · simp [results, Tryz.results103, go_sem, hfin]
        exact ⟨N, A, m, d, X, q, xd, xe, rfl, f1, hX, f2⟩
set_option maxRecDepth 100000 in
theorem drawTriplePaths_any (B : Option Addr) (n c : Nat) (bs : List Int) (w : World) (hB : RB w B n bs) (hn : n ≤ 1048576) (hlow : ∀ ad, B = some ad → ad.block < w.heap.size) :
    Calls Tryz.prog 41 #[.slice B n c] w (FourP le6L w) := by
  have hU0 : Up w (w.alloc (.cells #[.int .i64 0, .slice none 0 0] 26)) := by go_grown
  have hR0 := Blk.new w 26 #[.int .i64 0, .slice none 0 0]
  have hs0 : (w.alloc (.cells #[.int .i64 0, .slice none 0 0] 26)).heap.size = w.heap.size + 1 := by simp
  obtain ⟨gr, hgr⟩ : ∃ gr, gr = w.heap.size := ⟨_, rfl⟩
  go_enter Tryz.func41, Tryz.ntmps41
  go_wp2_with fail
  refine (l11Four_any B n c bs _ (hB.up hU0) hn (fun ad e => by have := hlow ad e; omega)).mono ?_
  rintro e w1 ⟨N, A, m, d, X, ta, tb, tc, rfl, hO1, hX, hb1⟩
  have hR1 := hR0.up hb1
  have hU1 := Up.then_ hU0 hb1
  have hs1 := hb1.size
  have hO2 := hO1.more (base' := w.heap.size) (by omega)
  have hU3 : Up w1 (w1.alloc (.cells #[.int .i64 N, .slice A m d] 26)) := by go_grown
  have hy3 := (Blk.new w1 26 #[.int .i64 N, .slice A m d]).two
  have hR3 := hR1.up hU3
  have hO3 := hO2.up hU3
  have hU4 := Up.then_ hU1 hU3
  rw [← hgr] at hR3 ⊢
  have hgr' : w.heap.size ≤ gr := by omega
  have hne : gr ≠ w1.heap.size := by omega
  clear hgr
  generalize hw3 : w1.alloc (.cells #[.int .i64 N, .slice A m d] 26) = w3 at hy3 hR3 hO3 hU4
  clear hU3 hR1 hU1 hO1 hO2 hb1 hU0 hR0 hs1 hs0
  have hyr := hR3.two
  have hf0 := hR3.frozen 0
  have hf1 := hR3.frozen 1
  have fo := (hO3.other_store (i := 0) hR3 (by decide) (.int .i64 N)).other_store (i := 1) (hR3.set_ 0 (.int .i64 N)) (by decide) (.slice A m d)
  have fb := (hU4.setCell (p := ⟨gr, 0, none⟩) hgr' (.int .i64 N)).setCell (p := ⟨gr, 1, none⟩) hgr' (.slice A m d)
  have hfin := ((hR3.set_ 0 (.int .i64 N)).set_ 1 (.slice A m d)).two
  clear hR3 hO3 hU4
  go_wp2
  clear hw3
  generalize (w3.setCell ⟨gr, 0, none⟩ (.int .i64 N)).setCell ⟨gr, 1, none⟩ (.slice A m d) = Wf at fo fb hfin ⊢
  refine bodyPost_ret (v := .tuple #[.agg #[.int .i64 N, .slice A m d], .int .i64 ta, .int .i64 tb, .int .i64 tc]) ?_ rfl ?_
  · simp [results, Tryz.results41, go_sem, hfin]
  exact ⟨N, A, m, d, X, ta, tb, tc, rfl, fo, hX, fb⟩
set_option maxRecDepth 100000 in
theorem drawAvoidingPath_any (B : Option Addr) (n c : Nat) (bs : List Int) (w : World) (hB : RB w B n bs) (hn : n ≤ 1048576) (hlow : ∀ ad, B = some ad → ad.block < w.heap.size) :
    Calls Tryz.prog 55 #[.slice B n c] w (FourP le6L w) := by
  have hU0 : Up w (w.alloc (.cells #[.int .i64 0, .slice none 0 0] 26)) := by go_grown
  have hR0 := Blk.new w 26 #[.int .i64 0, .slice none 0 0]
  have hs0 : (w.alloc (.cells #[.int .i64 0, .slice none 0 0] 26)).heap.size = w.heap.size + 1 := by simp
  obtain ⟨gr, hgr⟩ : ∃ gr, gr = w.heap.size := ⟨_, rfl⟩
  go_enter Tryz.func55, Tryz.ntmps55
  go_wp2_with fail
  refine (l11Four_any B n c bs _ (hB.up hU0) hn (fun ad e => by have := hlow ad e; omega)).mono ?_
  rintro e w1 ⟨N, A, m, d, X, ta, tb, tc, rfl, hO1, hX, hb1⟩
  have hR1 := hR0.up hb1
  have hU1 := Up.then_ hU0 hb1
  have hs1 := hb1.size
  have hO2 := hO1.more (base' := w.heap.size) (by omega)
  have hU3 : Up w1 (w1.alloc (.cells #[.int .i64 N, .slice A m d] 26)) := by go_grown
  have hy3 := (Blk.new w1 26 #[.int .i64 N, .slice A m d]).two
  have hR3 := hR1.up hU3
  have hO3 := hO2.up hU3
  have hU4 := Up.then_ hU1 hU3
  rw [← hgr] at hR3 ⊢
  have hgr' : w.heap.size ≤ gr := by omega
  have hne : gr ≠ w1.heap.size := by omega
  clear hgr
  generalize hw3 : w1.alloc (.cells #[.int .i64 N, .slice A m d] 26) = w3 at hy3 hR3 hO3 hU4
  clear hU3 hR1 hU1 hO1 hO2 hb1 hU0 hR0 hs1 hs0
  have hyr := hR3.two
  have hf0 := hR3.frozen 0
  have hf1 := hR3.frozen 1
  have fo := (hO3.other_store (i := 0) hR3 (by decide) (.int .i64 N)).other_store (i := 1) (hR3.set_ 0 (.int .i64 N)) (by decide) (.slice A m d)
  have fb := (hU4.setCell (p := ⟨gr, 0, none⟩) hgr' (.int .i64 N)).setCell (p := ⟨gr, 1, none⟩) hgr' (.slice A m d)
  have hfin := ((hR3.set_ 0 (.int .i64 N)).set_ 1 (.slice A m d)).two
  clear hR3 hO3 hU4
  go_wp2
  clear hw3
  generalize (w3.setCell ⟨gr, 0, none⟩ (.int .i64 N)).setCell ⟨gr, 1, none⟩ (.slice A m d) = Wf at fo fb hfin ⊢
  refine bodyPost_ret (v := .tuple #[.agg #[.int .i64 N, .slice A m d], .int .i64 ta, .int .i64 tb, .int .i64 tc]) ?_ rfl ?_
  · simp [results, Tryz.results55, go_sem, hfin]
  exact ⟨N, A, m, d, X, ta, tb, tc, rfl, fo, hX, fb⟩
end Go.Proofs.YthncdjcmlpiebaaGreat
namespace Go.Proofs.YthncdjcmlpiebaaGreat
open Go.RowKit
/-- A list and a number. -/
def ListZ (w : World) (e : Ending) (w' : World) : Prop := ∃ A d xs z, e = .returned (.tuple #[.slice A xs.length d, .int .i64 z]) ∧ OwnI w' w.heap.size A xs.length d xs ∧ xs.length ≤ 127 ∧ Below w.heap.size w w'
/-- A drawn graph in a box, the cursor beside; no result's box. -/
structure DZ (w : World) (g : Nat) (B : Option Addr) (n c : Nat) (bs : List Int) (gb : Nat) (N : Int) (A : Option Addr) (m d : Nat) (X : List Int) (wr : World) : Prop where
  cur : Cur wr g B n c bs
  box : Blk wr gb 26 #[.int .i64 N, .slice A m d]
  own : OwnI wr (g + 1) A m d X
  bel : Below w.heap.size w wr
  low : w.heap.size ≤ g
  hgb : g < gb
set_option maxRecDepth 100000 in
theorem DZ.up {w wr w' : World} {g n c gb m d : Nat} {B A : Option Addr} {bs X : List Int} {N : Int} (I : DZ w g B n c bs gb N A m d X wr) (hb : Up wr w') : DZ w g B n c bs gb N A m d X w' :=
  ⟨I.cur.up hb, I.box.up hb, I.own.up hb, Up.then_ I.bel hb, I.low, I.hgb⟩
set_option maxRecDepth 100000 in
theorem DZ.dr {w wr w' : World} {g n c gb m d : Nat} {B A : Option Addr} {bs X : List Int} {N : Int} (I : DZ w g B n c bs gb N A m d X wr) (hC : Cur w' g B n c bs) (hg : wr.grownBy w' (some g)) : DZ w g B n c bs gb N A m d X w' :=
  ⟨hC, I.box.grown hg (fun e => by injection e with e; have := I.hgb; omega), I.own.far_gb hg (by omega), I.bel.grown hg I.bel.size (fun k hk => by injection hk with hk; have := I.low; omega), I.low, I.hgb⟩
set_option maxRecDepth 100000 in
set_option maxHeartbeats 4000000 in
theorem drawModelOfOrder_any (B : Option Addr) (n c : Nat) (bs : List Int) (w : World) (hB : RB w B n bs) (hn : n ≤ 1048576) (hlow : ∀ ad, B = some ad → ad.block < w.heap.size) :
    Calls Tryz.prog 50 #[.slice B n c] w (ListZ w) := by
  go_enter Tryz.func50, Tryz.ntmps50
  go_wp2_with fail
  refine (l1New_any B n c bs _ hB hn hlow).mono ?_
  rintro e w1 ⟨g, rfl, hC1, hb1, hg1⟩
  have hU1 : Up w w1 := hb1
  go_wp2_with fail
  refine (l10Graph_any hC1).mono ?_
  rintro e w2 ⟨v, rfl, ⟨N, A, m, d, X, rfl, ho, hX⟩, hC2, hg2⟩
  have hlt := hC1.lt
  have hs2 := hg2.size
  have hU2 := hU1.grown hg2 hU1.size (fun k hk => by injection hk with hk; omega)
  have hU3 : Up w2 (w2.alloc (.cells #[.int .i64 N, .slice A m d] 26)) := by go_grown
  have I : DZ w g B n c bs w2.heap.size N A m d X (w2.alloc (.cells #[.int .i64 N, .slice A m d] 26)) :=
    ⟨hC2.up hU3, Blk.new _ _ _, (ho.more (by omega)).up hU3, Up.then_ hU2 hU3, hg1, by omega⟩
  clear hU1 hC1 hU2 hU3 hC2 hg2 ho hb1
  obtain ⟨gb, hgb⟩ : ∃ gb, gb = w2.heap.size := ⟨_, rfl⟩
  rw [← hgb] at I
  go_wp2_with fail
  rw [← hgb]
  generalize w2.alloc (.cells #[.int .i64 N, .slice A m d] 26) = w3 at I ⊢
  clear hgb hs2 hlt
  have hm64 : m ≤ 9223372036854775807 := by have := I.own.cap; omega
  have hle := ord_len7 N X
  have hlw := I.low
  refine (specCliqueOrderOf_any N A m d X w3 I.own.ri hm64).mono ?_
  rintro e w4 ⟨A1, c1, rfl, hO1, hb4⟩
  obtain ⟨xs1, hxs1⟩ : ∃ xs1, xs1 = optL (ordOf N X) := ⟨_, rfl⟩
  obtain ⟨b1, hbb1⟩ : ∃ b1, b1 = (ordOf N X).isSome := ⟨_, rfl⟩
  rw [← hxs1] at hO1 hle ⊢
  rw [← hbb1]
  replace hO1 := hO1.more (base' := g + 1) (by have := I.cur.lt; omega)
  replace I := I.up hb4
  clear hb4 hxs1 hbb1
  obtain ⟨mc, hmc⟩ : ∃ mc, mc = ints (maxCliquesOf N X) := ⟨_, rfl⟩
  have hmcl : mc.length ≤ 127 := by rw [hmc, ints_len]; exact maxC_len N X
  have HM : ∀ w', RI w' A m X → Calls Tryz.prog 93 #[.agg #[.int .i64 N, .slice A m d]] w' (GivesI mc w') := fun w' h => by rw [hmc]; exact specMaximalCliques_any N A m d X w' h hm64
  clear hmc
  cases b1
  · clear hO1
    have hy := I.box.two
    have hlb := I.box.lt
    go_wp2_with fail
    refine (HM _ I.own.ri).mono ?_
    rintro e w6 ⟨A6, c6, rfl, hO6, hb6⟩
    have hbs := I.bel.size
    have hgl := I.cur.lt
    replace hO6 := hO6.more (base' := g + 1) (by omega)
    replace I := I.up hb6
    go_wp2_with fail
    refine (l1Below_any I.cur 9 (by omega) (by omega)).mono ?_
    rintro e w7 ⟨v, rfl, ⟨x7, rfl, hx7⟩, hC7, hg7⟩
    replace I := I.dr hC7 hg7
    have hO7 := (hO6.far_gb hg7 (by omega)).more (base' := w.heap.size) (by omega)
    go_wp2
    refine bodyPost_ret (v := .tuple #[.slice A6 mc.length c6, .int .i64 (x7 : Nat)]) ?_ rfl ?_
    · simp [results, Tryz.results50, go_sem]
    exact ⟨A6, c6, mc, x7, rfl, hO7, by omega, I.bel⟩
  · go_wp2_with fail
    refine (l1Once_any I.cur 4 (by omega) (by omega)).mono ?_
    rintro e w5 ⟨v, rfl, ⟨q, rfl⟩, hC5, hg5⟩
    replace I := I.dr hC5 hg5
    replace hO1 := hO1.far_gb hg5 (by omega)
    clear hC5 hg5
    cases q
    · have hy := I.box.two
      have hlb := I.box.lt
      have hbel := I.bel.drew
      have hOf := (hO1.more (base' := w.heap.size) (by omega)).drew
      clear I hO1 HM
      go_wp2_with fail
      go_region
      go_wp2
      refine bodyPost_ret (v := .tuple #[.slice A1 xs1.length c1, .int .i64 N]) ?_ rfl ?_
      · simp [results, Tryz.results50, go_sem]
      exact ⟨A1, c1, xs1, N, rfl, hOf, by omega, hbel⟩
    · clear hO1
      have hy := I.box.two
      have hlb := I.box.lt
      go_wp2_with fail
      refine (HM _ I.own.ri).mono ?_
      rintro e w6 ⟨A6, c6, rfl, hO6, hb6⟩
      have hbs := I.bel.size
      have hgl := I.cur.lt
      replace hO6 := hO6.more (base' := g + 1) (by omega)
      replace I := I.up hb6
      go_wp2_with fail
      refine (l1Below_any I.cur 9 (by omega) (by omega)).mono ?_
      rintro e w7 ⟨v, rfl, ⟨x7, rfl, hx7⟩, hC7, hg7⟩
      replace I := I.dr hC7 hg7
      have hO7 := (hO6.far_gb hg7 (by omega)).more (base' := w.heap.size) (by omega)
      go_wp2
      refine bodyPost_ret (v := .tuple #[.slice A6 mc.length c6, .int .i64 (x7 : Nat)]) ?_ rfl ?_
      · simp [results, Tryz.results50, go_sem]
      exact ⟨A6, c6, mc, x7, rfl, hO7, by omega, I.bel⟩
/-- A graph and intervals. -/
def GraphM (w : World) (e : Ending) (w' : World) : Prop := ∃ N A m d X P np cp Q nq cq L R, e = .returned (.tuple #[.agg #[.int .i64 N, .slice A m d], .agg #[.slice P np cp, .slice Q nq cq]]) ∧ OwnI w' w.heap.size A m d X ∧ le6 N X ∧ RI w' P np L ∧ RI w' Q nq R ∧ np ≤ 7 ∧ nq ≤ 7 ∧ Below w.heap.size w w'
/-- A drawn graph and intervals in boxes, the cursor and the results beside. -/
structure DV (w : World) (g : Nat) (B : Option Addr) (n c : Nat) (bs : List Int) (gr gi gb : Nat) (N : Int) (A : Option Addr) (m d : Nat) (X : List Int) (wr : World) : Prop where
  cur : Cur wr g B n c bs
  res : Blk wr gr 26 #[.int .i64 0, .slice none 0 0]
  rei : Blk wr gi 31 #[.slice none 0 0, .slice none 0 0]
  box : Blk wr gb 26 #[.int .i64 N, .slice A m d]
  own : OwnI wr (g + 1) A m d X
  bel : Below w.heap.size w wr
  hgr : w.heap.size ≤ gr
  hgi : w.heap.size ≤ gi
  low : w.heap.size ≤ g
  lr : gr < g
  li : gi < g
  hgb : g < gb
section
variable {w wr w' : World} {g n c gr gi gb m d : Nat} {B A : Option Addr} {bs X : List Int} {N : Int}
set_option maxRecDepth 100000 in
theorem DV.up (I : DV w g B n c bs gr gi gb N A m d X wr) (hb : Up wr w') : DV w g B n c bs gr gi gb N A m d X w' :=
  ⟨I.cur.up hb, I.res.up hb, I.rei.up hb, I.box.up hb, I.own.up hb, Up.then_ I.bel hb, I.hgr, I.hgi, I.low, I.lr, I.li, I.hgb⟩
set_option maxRecDepth 100000 in
theorem DV.dr (I : DV w g B n c bs gr gi gb N A m d X wr) (hC : Cur w' g B n c bs) (hg : wr.grownBy w' (some g)) : DV w g B n c bs gr gi gb N A m d X w' :=
  ⟨hC, I.res.grown hg (fun e => by injection e with e; have := I.lr; omega), I.rei.grown hg (fun e => by injection e with e; have := I.li; omega), I.box.grown hg (fun e => by injection e with e; have := I.hgb; omega), I.own.far_gb hg (by omega), I.bel.grown hg I.bel.size (fun k hk => by injection hk with hk; have := I.low; omega), I.hgr, I.hgi, I.low, I.lr, I.li, I.hgb⟩
set_option maxRecDepth 100000 in
/-- Both results are stored, in either order. -/
theorem DV.fin (I : DV w g B n c bs gr gi gb N A m d X wr) (P Q : Option Addr) (np cp nq cq : Nat) (L R : List Int) (hP : RF wr (g + 1) P np L) (hQ : RF wr (g + 1) Q nq R) :
    (OwnI ((((wr.setCell ⟨gr, 0, none⟩ (.int .i64 N)).setCell ⟨gr, 1, none⟩ (.slice A m d)).setCell ⟨gi, 0, none⟩ (.slice P np cp)).setCell ⟨gi, 1, none⟩ (.slice Q nq cq)) w.heap.size A m d X ∧ RI ((((wr.setCell ⟨gr, 0, none⟩ (.int .i64 N)).setCell ⟨gr, 1, none⟩ (.slice A m d)).setCell ⟨gi, 0, none⟩ (.slice P np cp)).setCell ⟨gi, 1, none⟩ (.slice Q nq cq)) P np L ∧
      RI ((((wr.setCell ⟨gr, 0, none⟩ (.int .i64 N)).setCell ⟨gr, 1, none⟩ (.slice A m d)).setCell ⟨gi, 0, none⟩ (.slice P np cp)).setCell ⟨gi, 1, none⟩ (.slice Q nq cq)) Q nq R ∧ Below w.heap.size w ((((wr.setCell ⟨gr, 0, none⟩ (.int .i64 N)).setCell ⟨gr, 1, none⟩ (.slice A m d)).setCell ⟨gi, 0, none⟩ (.slice P np cp)).setCell ⟨gi, 1, none⟩ (.slice Q nq cq))) ∧
    Blk ((((wr.setCell ⟨gr, 0, none⟩ (.int .i64 N)).setCell ⟨gr, 1, none⟩ (.slice A m d)).setCell ⟨gi, 0, none⟩ (.slice P np cp)).setCell ⟨gi, 1, none⟩ (.slice Q nq cq)) gr 26 #[.int .i64 N, .slice A m d] ∧ Blk ((((wr.setCell ⟨gr, 0, none⟩ (.int .i64 N)).setCell ⟨gr, 1, none⟩ (.slice A m d)).setCell ⟨gi, 0, none⟩ (.slice P np cp)).setCell ⟨gi, 1, none⟩ (.slice Q nq cq)) gi 31 #[.slice P np cp, .slice Q nq cq] := by
  have h1 := I.lr
  have h2 := I.li
  have hlow := I.low
  have hne : gr ≠ gi := I.res.ne_ I.rei (by decide)
  have hne2 : gi ≠ gr := Ne.symm hne
  have b1 := (I.res.set_ 0 (.int .i64 N)).set_ 1 (.slice A m d)
  have c1 := (I.rei.far (p := ⟨gr, 0, none⟩) hne2 (.int .i64 N)).far (p := ⟨gr, 1, none⟩) hne2 (.slice A m d)
  have b2 := (b1.far (p := ⟨gi, 0, none⟩) hne (.slice P np cp)).far (p := ⟨gi, 1, none⟩) hne (.slice Q nq cq)
  have c2 := (c1.set_ 0 (.slice P np cp)).set_ 1 (.slice Q nq cq)
  have o1 := (I.own.other_store (i := 0) I.res (by decide) (.int .i64 N)).other_store (i := 1) (I.res.set_ 0 (.int .i64 N)) (by decide) (.slice A m d)
  have o2 := (o1.other_store (i := 0) c1 (by decide) (.slice P np cp)).other_store (i := 1) (c1.set_ 0 (.slice P np cp)) (by decide) (.slice Q nq cq)
  have p1 := (((hP.set (p := ⟨gr, 0, none⟩) (by show gr < g + 1; omega) (.int .i64 N)).set (p := ⟨gr, 1, none⟩) (by show gr < g + 1; omega) (.slice A m d)).set (p := ⟨gi, 0, none⟩) (by show gi < g + 1; omega) (.slice P np cp)).set (p := ⟨gi, 1, none⟩) (by show gi < g + 1; omega) (.slice Q nq cq)
  have q1 := (((hQ.set (p := ⟨gr, 0, none⟩) (by show gr < g + 1; omega) (.int .i64 N)).set (p := ⟨gr, 1, none⟩) (by show gr < g + 1; omega) (.slice A m d)).set (p := ⟨gi, 0, none⟩) (by show gi < g + 1; omega) (.slice P np cp)).set (p := ⟨gi, 1, none⟩) (by show gi < g + 1; omega) (.slice Q nq cq)
  have be := (((I.bel.setCell (p := ⟨gr, 0, none⟩) I.hgr (.int .i64 N)).setCell (p := ⟨gr, 1, none⟩) I.hgr (.slice A m d)).setCell (p := ⟨gi, 0, none⟩) I.hgi (.slice P np cp)).setCell (p := ⟨gi, 1, none⟩) I.hgi (.slice Q nq cq)
  exact ⟨⟨o2.more (by omega), p1.1, q1.1, be⟩, b2, c2⟩
end
set_option maxRecDepth 100000 in
theorem ivm_len7 (N : Int) (X : List Int) : (ivmOf N X).1.length ≤ 7 ∧ (ivmOf N X).2.1.length ≤ 7 := by
  rcases ho : ordOf N X with _ | q
  · rw [ivmOf_none ho]; simp
  · rw [ivmOf_some ho]
    have := moL_len (ints q) N
    exact ⟨this.1, this.2.1⟩
set_option maxRecDepth 100000 in
set_option maxHeartbeats 4000000 in
theorem drawIsModelOf_any (B : Option Addr) (n c : Nat) (bs : List Int) (w : World) (hB : RB w B n bs) (hn : n ≤ 1048576) (hlow : ∀ ad, B = some ad → ad.block < w.heap.size) :
    Calls Tryz.prog 53 #[.slice B n c] w (GraphM w) := by
  have hU0 : Up w ((w.alloc (.cells #[.int .i64 0, .slice none 0 0] 26)).alloc (.cells #[.slice none 0 0, .slice none 0 0] 31)) := by go_grown
  have hR0 := (Blk.new w 26 #[.int .i64 0, .slice none 0 0]).alloc (.cells #[.slice none 0 0, .slice none 0 0] 31)
  have hI0 : Blk ((w.alloc (.cells #[.int .i64 0, .slice none 0 0] 26)).alloc (.cells #[.slice none 0 0, .slice none 0 0] 31)) (w.heap.size + 1) 31 #[.slice none 0 0, .slice none 0 0] := Blk.new_at (by simp)
  have hs0 : ((w.alloc (.cells #[.int .i64 0, .slice none 0 0] 26)).alloc (.cells #[.slice none 0 0, .slice none 0 0] 31)).heap.size = w.heap.size + 2 := by simp
  obtain ⟨gi, hgi⟩ : ∃ gi, gi = w.heap.size + 1 := ⟨_, rfl⟩
  obtain ⟨gr, hgr⟩ : ∃ gr, gr = w.heap.size := ⟨_, rfl⟩
  go_enter Tryz.func53, Tryz.ntmps53
  go_wp2_with fail
  refine (l1New_any B n c bs _ (hB.up hU0) hn (fun ad e => by have := hlow ad e; omega)).mono ?_
  rintro e w1 ⟨g, rfl, hC1, hb1, hg1⟩
  have hR1 := hR0.up hb1
  have hI1 := hI0.up hb1
  have hU1 := Up.then_ hU0 hb1
  rw [← hgi] at hI1 ⊢
  rw [← hgr] at hR1 ⊢
  have hgr' : w.heap.size ≤ gr := by omega
  have hgi' : w.heap.size ≤ gi := by omega
  have hlr : gr < g := by omega
  have hli : gi < g := by omega
  have hlg : w.heap.size ≤ g := by omega
  clear hgr hgi hR0 hI0 hs0 hb1 hg1 hU0
  go_wp2_with fail
  refine (l10Graph_any hC1).mono ?_
  rintro e w2 ⟨v, rfl, ⟨N, A, m, d, X, rfl, ho, hX⟩, hC2, hg2⟩
  have hlt := hC1.lt
  have hs2 := hg2.size
  have hR2 := hR1.grown hg2 (fun e => by injection e with e; omega)
  have hI2 := hI1.grown hg2 (fun e => by injection e with e; omega)
  have hU2 := hU1.grown hg2 hU1.size (fun k hk => by injection hk with hk; omega)
  have hU3 : Up w2 (w2.alloc (.cells #[.int .i64 N, .slice A m d] 26)) := by go_grown
  have I : DV w g B n c bs gr gi w2.heap.size N A m d X (w2.alloc (.cells #[.int .i64 N, .slice A m d] 26)) :=
    ⟨hC2.up hU3, hR2.up hU3, hI2.up hU3, Blk.new _ _ _, (ho.more (by omega)).up hU3, Up.then_ hU2 hU3, hgr', hgi', hlg, hlr, hli, by omega⟩
  clear hR1 hI1 hU1 hC1 hR2 hI2 hU2 hU3 hC2 hg2 ho
  obtain ⟨gb, hgb⟩ : ∃ gb, gb = w2.heap.size := ⟨_, rfl⟩
  rw [← hgb] at I
  go_wp2_with fail
  rw [← hgb]
  generalize w2.alloc (.cells #[.int .i64 N, .slice A m d] 26) = w3 at I ⊢
  clear hgb hs2 hlt
  have hm64 : m ≤ 9223372036854775807 := by have := I.own.cap; omega
  have hle := ivm_len7 N X
  have hlw := I.low
  refine (specIntervalModelOf_any N A m d X w3 I.own.ri hm64).mono ?_
  rintro e w4 ⟨P, cp, Q, cq, rfl, hP, hQ, hap, hb4⟩
  obtain ⟨L, hL⟩ : ∃ L, L = (ivmOf N X).1 := ⟨_, rfl⟩
  obtain ⟨R, hR⟩ : ∃ R, R = (ivmOf N X).2.1 := ⟨_, rfl⟩
  obtain ⟨b1, hbb1⟩ : ∃ b1, b1 = (ivmOf N X).2.2 := ⟨_, rfl⟩
  rw [← hL] at hP hap hle ⊢
  rw [← hR] at hQ hap hle ⊢
  rw [← hbb1]
  obtain ⟨hle1, hle2⟩ := hle
  have hgl := I.cur.lt
  have hP' := (hP.more (base' := g + 1) (by omega)).rf
  have hQ' := (hQ.more (base' := g + 1) (by omega)).rf
  replace I := I.up hb4
  have hgm0 := I.cur.lt
  clear hb4 hL hR hbb1 hP hQ hap
  have hU5 : Up w4 (w4.alloc (.cells #[.slice P L.length cp, .slice Q R.length cq] 31)) := by go_grown
  have hM := Blk.new w4 31 #[.slice P L.length cp, .slice Q R.length cq]
  replace I := I.up hU5
  replace hP' := hP'.up hU5
  replace hQ' := hQ'.up hU5
  obtain ⟨gm, hgm⟩ : ∃ gm, gm = w4.heap.size := ⟨_, rfl⟩
  rw [← hgm] at hM
  have hgm2 : g < gm := by omega
  clear hU5 hgm0
  cases b1
  · clear hP' hQ'
    go_wp2_with fail
    rw [← hgm]
    generalize w4.alloc (.cells #[.slice P L.length cp, .slice Q R.length cq] 31) = w5 at I hM ⊢
    clear hgm hM hgm2
    have hy := I.box.two
    have hlb := I.box.lt
    have hgs := I.cur.lt
    have hyr := I.res.two
    have hf0 := I.res.frozen 0
    have hf1 := I.res.frozen 1
    have hyi := I.rei.two
    have hi0 := I.rei.frozen 0
    have hi1 := I.rei.frozen 1
    have hne : gr ≠ gi := I.res.ne_ I.rei (by decide)
    have hne2 := Ne.symm hne
    go_wp2_with fail
    go_region_with (refine (l9Model_any (I.up (Below.drew (Up.refl _))).cur).mono ?_; rintro e w8 ⟨v, rfl, ⟨P2, np, cp2, Q2, nq, cq2, L2, R2, rfl, hP2, hQ2, hnp, hnq⟩, hC8, hg8⟩; have I8 := (I.up (Below.drew (Up.refl _))).dr hC8 hg8; have hy8 := I8.box.two; have hyr8 := I8.res.two; have hf80 := I8.res.frozen 0; have hf81 := I8.res.frozen 1; have hyi8 := I8.rei.two; have hi80 := I8.rei.frozen 0; have hi81 := I8.rei.frozen 1)
    all_goals
      clear hy hyr hf0 hf1 hyi hi0 hi1
      have hP3 := hP2.more (base' := g + 1) (by show g + 1 ≤ w5.heap.size; omega)
      have hQ3 := hQ2.more (base' := g + 1) (by show g + 1 ≤ w5.heap.size; omega)
      obtain ⟨⟨f1, f2, f3, f4⟩, f5, f6⟩ := I8.fin P2 Q2 np cp2 nq cq2 L2 R2 hP3 hQ3
      have k1 := f5.two
      have k2 := f6.two
      clear I8 I hP2 hQ2 hP3 hQ3 hC8 hg8 hy8 hyr8 hf80 hf81 hyi8 hi80 hi81 f5 f6
      go_wp2
      generalize ((((w8.setCell ⟨gr, 0, none⟩ (.int .i64 N)).setCell ⟨gr, 1, none⟩ (.slice A m d)).setCell ⟨gi, 0, none⟩ (.slice P2 np cp2)).setCell ⟨gi, 1, none⟩ (.slice Q2 nq cq2)) = Wf at f1 f2 f3 f4 k1 k2 ⊢
      refine bodyPost_ret (v := .tuple #[.agg #[.int .i64 N, .slice A m d], .agg #[.slice P2 np cp2, .slice Q2 nq cq2]]) ?_ rfl ?_
      · simp [results, Tryz.results53, go_sem, k1, k2]
      exact ⟨N, A, m, d, X, P2, np, cp2, Q2, nq, cq2, L2, R2, rfl, f1, hX, f2, f3, by omega, by omega, f4⟩
  · go_wp2_with fail
    rw [← hgm]
    generalize w4.alloc (.cells #[.slice P L.length cp, .slice Q R.length cq] 31) = w5 at I hM hP' hQ' ⊢
    clear hgm
    refine (l1Once_any I.cur 3 (by omega) (by omega)).mono ?_
    rintro e w6 ⟨v, rfl, ⟨q, rfl⟩, hC6, hg6⟩
    replace hM := hM.grown hg6 (fun e => by injection e with e; omega)
    replace I := I.dr hC6 hg6
    replace hP' := hP'.gb hg6 (by omega)
    replace hQ' := hQ'.gb hg6 (by omega)
    clear hC6 hg6
    cases q
    · have hy := I.box.two
      have hlb := I.box.lt
      have hym := hM.two
      have hlm := hM.lt
      have hyr := I.res.two
      have hf0 := I.res.frozen 0
      have hf1 := I.res.frozen 1
      have hyi := I.rei.two
      have hi0 := I.rei.frozen 0
      have hi1 := I.rei.frozen 1
      have hne : gr ≠ gi := I.res.ne_ I.rei (by decide)
      have hne2 := Ne.symm hne
      obtain ⟨⟨f1, f2, f3, f4⟩, f5, f6⟩ := I.fin P Q L.length cp R.length cq L R hP' hQ'
      replace f1 := f1.drew
      replace f2 := f2.drew
      replace f3 := f3.drew
      replace f4 := f4.drew
      have k1 := f5.drew.two
      have k2 := f6.drew.two
      clear I hP' hQ' hM f5 f6
      go_wp2_with fail
      go_region
      all_goals
        go_wp2
        generalize ((((w6.setCell ⟨gr, 0, none⟩ (.int .i64 N)).setCell ⟨gr, 1, none⟩ (.slice A m d)).setCell ⟨gi, 0, none⟩ (.slice P L.length cp)).setCell ⟨gi, 1, none⟩ (.slice Q R.length cq)).drew = Wf at f1 f2 f3 f4 k1 k2 ⊢
        refine bodyPost_ret (v := .tuple #[.agg #[.int .i64 N, .slice A m d], .agg #[.slice P L.length cp, .slice Q R.length cq]]) ?_ rfl ?_
        · simp [results, Tryz.results53, go_sem, k1, k2]
        exact ⟨N, A, m, d, X, P, L.length, cp, Q, R.length, cq, L, R, rfl, f1, hX, f2, f3, by omega, by omega, f4⟩
    · clear hP' hQ' hM hgm2
      have hy := I.box.two
      have hlb := I.box.lt
      have hgs := I.cur.lt
      have hyr := I.res.two
      have hf0 := I.res.frozen 0
      have hf1 := I.res.frozen 1
      have hyi := I.rei.two
      have hi0 := I.rei.frozen 0
      have hi1 := I.rei.frozen 1
      have hne : gr ≠ gi := I.res.ne_ I.rei (by decide)
      have hne2 := Ne.symm hne
      go_wp2_with fail
      go_region_with (refine (l9Model_any (I.up (Below.drew (Up.refl _))).cur).mono ?_; rintro e w8 ⟨v, rfl, ⟨P2, np, cp2, Q2, nq, cq2, L2, R2, rfl, hP2, hQ2, hnp, hnq⟩, hC8, hg8⟩; have I8 := (I.up (Below.drew (Up.refl _))).dr hC8 hg8; have hy8 := I8.box.two; have hyr8 := I8.res.two; have hf80 := I8.res.frozen 0; have hf81 := I8.res.frozen 1; have hyi8 := I8.rei.two; have hi80 := I8.rei.frozen 0; have hi81 := I8.rei.frozen 1)
      all_goals
        clear hy hyr hf0 hf1 hyi hi0 hi1
        have hP3 := hP2.more (base' := g + 1) (by show g + 1 ≤ w6.heap.size; omega)
        have hQ3 := hQ2.more (base' := g + 1) (by show g + 1 ≤ w6.heap.size; omega)
        obtain ⟨⟨f1, f2, f3, f4⟩, f5, f6⟩ := I8.fin P2 Q2 np cp2 nq cq2 L2 R2 hP3 hQ3
        have k1 := f5.two
        have k2 := f6.two
        clear I8 I hP2 hQ2 hP3 hQ3 hC8 hg8 hy8 hyr8 hf80 hf81 hyi8 hi80 hi81 f5 f6
        go_wp2
        generalize ((((w8.setCell ⟨gr, 0, none⟩ (.int .i64 N)).setCell ⟨gr, 1, none⟩ (.slice A m d)).setCell ⟨gi, 0, none⟩ (.slice P2 np cp2)).setCell ⟨gi, 1, none⟩ (.slice Q2 nq cq2)) = Wf at f1 f2 f3 f4 k1 k2 ⊢
        refine bodyPost_ret (v := .tuple #[.agg #[.int .i64 N, .slice A m d], .agg #[.slice P2 np cp2, .slice Q2 nq cq2]]) ?_ rfl ?_
        · simp [results, Tryz.results53, go_sem, k1, k2]
        exact ⟨N, A, m, d, X, P2, np, cp2, Q2, nq, cq2, L2, R2, rfl, f1, hX, f2, f3, by omega, by omega, f4⟩
end Go.Proofs.YthncdjcmlpiebaaGreat
namespace Go.Proofs.YthncdjcmlpiebaaGreat
open Go.RowKit
/-- A row: where it lies, its room, what it holds. -/
abbrev RowP := (Option Addr × Nat) × List Int
def rowV (p : RowP) : Value := .slice p.1.1 p.2.length p.1.2
/-- The slice '.slice A n c' of rows is the call's own, its rows too, each in a block of its own. -/
structure OwnS (w : World) (base : Nat) (A : Option Addr) (n c : Nat) (ps : List RowP) : Prop where
  top : w.ownsRow base 24 1 (.slice A n c) n (ps.map rowV)
  rows : ∀ p ∈ ps, OwnI w base p.1.1 p.2.length p.1.2 p.2
  apart : ps.Pairwise fun p q => ∀ j, (rowV p).ownBlock = some j → (rowV q).ownBlock ≠ some j
section
variable {w w' : World} {base n c : Nat} {A : Option Addr} {ps : List RowP}
set_option maxRecDepth 100000 in
theorem OwnS.len (h : OwnS w base A n c ps) : ps.length = n := by have := h.top.1; simpa using this
set_option maxRecDepth 100000 in
theorem OwnS.nil_ (w : World) (base : Nat) : OwnS w base none 0 0 [] := ⟨World.ownsRow_nil _ _ _ _, (fun _ h => by cases h), List.Pairwise.nil⟩
set_option maxRecDepth 100000 in
theorem OwnS.made {g : Nat} (h : w.heap.size = g) (hb : base ≤ g) : OwnS (w.alloc (.cells #[] 24)) base (some ⟨g, 0, none⟩) 0 0 [] := by
  subst h
  exact ⟨World.ownsRow_made w #[] 0 hb (by decide) (by simp), (fun _ h => by cases h), List.Pairwise.nil⟩
set_option maxRecDepth 100000 in
theorem ownsRow_up {base n : Nat} {e : TypeId} {v : Value} {xs : List Value} (h : w.ownsRow base e 1 v n xs) (hb : Below w.heap.size w w') : w'.ownsRow base e 1 v n xs := by
  rcases hv : v.ownBlock with _ | g
  · exact World.ownsRow.kept h (only_of_below hb none) (.inl hv)
  · exact World.ownsRow.kept h (only_of_below hb none) (.inr (by rw [hv]; simp))
set_option maxRecDepth 100000 in
theorem OwnS.up (h : OwnS w base A n c ps) (hb : Below w.heap.size w w') : OwnS w' base A n c ps := ⟨ownsRow_up h.top hb, fun p hp => (h.rows p hp).up hb, h.apart⟩
set_option maxRecDepth 100000 in
theorem OwnS.more {base' : Nat} (h : OwnS w base A n c ps) (hb : base' ≤ base) : OwnS w base' A n c ps := by
  refine ⟨?_, fun p hp => (h.rows p hp).more hb, h.apart⟩
  refine ⟨h.top.1, ?_⟩
  rcases h.top.2 with hn | ⟨g, cap, cur, hv, hg, rest⟩
  · exact .inl hn
  · exact .inr ⟨g, cap, cur, hv, by omega, rest⟩
set_option maxRecDepth 100000 in
theorem OwnS.alloc (h : OwnS w base A n c ps) (o : Obj) : OwnS (w.alloc o) base A n c ps := ⟨World.ownsRow.alloc h.top o, fun p hp => (h.rows p hp).alloc o, h.apart⟩
set_option maxRecDepth 100000 in
theorem OwnS.block (h : OwnS w base A n c ps) : ∀ k, (Value.slice A n c).ownBlock = some k → base ≤ k ∧ k < w.heap.size := World.ownsRow.lt h.top
set_option maxRecDepth 100000 in
/-- Row k. -/
theorem OwnS.at_ {k : Nat} (h : OwnS w base A n c ps) (hk : k < n) : ∃ g p, A = some ⟨g, 0, none⟩ ∧ ps[k]? = some p ∧ w.cell? ((⟨g, 0, none⟩ : Addr).add k) = some (rowV p) ∧ OwnI w base p.1.1 p.2.length p.1.2 p.2 := by
  have hl := h.len
  have hk' : k < ps.length := by omega
  rcases h.top.2 with ⟨_, h0⟩ | ⟨g, cap, cur, hv, _⟩
  · omega
  · injection hv with e1 e2 e3
    subst e1
    refine ⟨g, ps[k], rfl, List.getElem?_eq_getElem hk', World.ownsRow.cells h.top rfl k _ (by rw [List.getElem?_map, List.getElem?_eq_getElem hk']; rfl), h.rows _ (List.getElem_mem hk')⟩
end
end Go.Proofs.YthncdjcmlpiebaaGreat
namespace Go.Proofs.YthncdjcmlpiebaaGreat
open Go.RowKit
set_option maxRecDepth 100000
set_option maxRecDepth 100000 in
theorem addS (g k : Nat) : (⟨g, 0, none⟩ : Addr).add k = ⟨g, k, none⟩ := by unfold Addr.add; split <;> simp_all
/-- How many numbers there are. -/
def sumL : List (List Int) → Nat
  | [] => 0
  | x :: t => x.length + sumL t
section
variable {w w' : World} {base n c : Nat} {A : Option Addr} {ps : List RowP}
set_option maxRecDepth 100000 in
theorem OwnS.split {k : Nat} (h : OwnS w base A n c ps) (hk : k < n) : ∃ g p, A = some ⟨g, 0, none⟩ ∧ ps = ps.take k ++ p :: ps.drop (k + 1) ∧ w.cell? ⟨g, k, none⟩ = some (rowV p) ∧ g < w.heap.size ∧ OwnI w base p.1.1 p.2.length p.1.2 p.2 ∧ ps[k]? = some p := by
  obtain ⟨g, p, rfl, hp, hc, hown⟩ := h.at_ hk
  have hk' : k < ps.length := by rw [h.len]; exact hk
  rw [addS] at hc
  refine ⟨g, p, rfl, ?_, hc, (h.block g rfl).2, hown, hp⟩
  have e : ps[k] = p := by rw [List.getElem?_eq_getElem hk'] at hp; injection hp
  rw [← e, List.getElem_cons_drop, List.take_append_drop]
end
/-- Rows of rows and a flag. -/
def GivesSB (xss : List (List Int)) (b : Bool) (w : World) (e : Ending) (w' : World) : Prop :=
  ∃ A c ps, ps.map Prod.snd = xss ∧ e = .returned (.tuple #[.slice A ps.length c, .bool b]) ∧ OwnS w' w.heap.size A ps.length c ps ∧ Below w.heap.size w w'
end Go.Proofs.YthncdjcmlpiebaaGreat
namespace Go.Proofs.YthncdjcmlpiebaaGreat
open Go.RowKit
set_option maxRecDepth 100000 in
set_option maxHeartbeats 1000000 in
theorem sameLists_up {A B : Option Addr} {n c d b1 b2 : Nat} {ps qs : List RowP} {w : World} (hA0 : OwnS w b1 A n c ps) (hB0 : OwnS w b2 B n d qs) (h : ps.map Prod.snd = qs.map Prod.snd) (hr : ∀ p ∈ ps, p.2.length ≤ 1048576) (hn : n ≤ 1048576) :
    Calls Tryz.prog 44 #[.slice A n c, .slice B n d] w fun e w' => e = .returned (.bool true) ∧ Below w.heap.size w w' := by
  have HH := Lib.hid h
  have HR := Lib.hid hr
  clear h hr
  go_enter Tryz.func44, Tryz.ntmps44
  go_wp2_with fail
  go_loopw [5] (fun i wr => ∃ k : Nat, k ≤ n ∧ i = .int .i64 k ∧ Up w wr) (fun i _ => n - (intOf i).toNat)
  case atStart => exact ⟨0, Nat.zero_le _, rfl, Up.refl _⟩
  case round =>
    obtain ⟨k, hk, rfl, hU⟩ := hrel
    obtain ⟨wo, rfl⟩ : ∃ wo : World, wo = wr := ⟨_, rfl⟩
    have hA := hA0.up hU
    have hB := hB0.up hU
    by_cases hkn : k < n
    · obtain ⟨gA, p, rfl, _, hcA, hgA, hoA, hpk⟩ := hA.split hkn
      obtain ⟨gB, q, rfl, _, hcB, hgB, hoB, hqk⟩ := hB.split hkn
      have hpq : p.2 = q.2 := by
        have h1 := congrArg (fun x => x[k]?) HH.out
        simp only [List.getElem?_map, hpk, hqk, Option.map_some, Option.some.injEq] at h1
        exact h1
      have hpl := HR.out p (List.mem_of_getElem? hpk)
      obtain ⟨⟨P1, P2⟩, xs⟩ := p
      obtain ⟨⟨Q1, Q2⟩, ys⟩ := q
      replace hpq : xs = ys := hpq
      subst hpq
      replace hcA : wo.cell? ⟨gA, k, none⟩ = some (.slice P1 xs.length P2) := hcA
      replace hcB : wo.cell? ⟨gB, k, none⟩ = some (.slice Q1 xs.length Q2) := hcB
      replace hoA : OwnI wo b1 P1 xs.length P2 xs := hoA
      replace hoB : OwnI wo b2 Q1 xs.length Q2 xs := hoB
      replace hpl : xs.length ≤ 1048576 := hpl
      clear hpk hqk
      go_wp2
      have hV0 : Up wo wo.drew := (Up.refl _).drew
      refine wp_region_calm (S := (fun w' => Up wo w' ∧ (∀ b o, b < wo.heap.size → w'.cell? ⟨b, o, none⟩ = wo.cell? ⟨b, o, none⟩) ∧ w'.cell? (⟨gA, k, none⟩) = some (.slice P1 xs.length P2) ∧ w'.cell? (⟨gB, k, none⟩) = some (.slice Q1 xs.length Q2))) (by kernel_rfl) (by kernel_rfl) (by exact ⟨hV0, fun _ _ hb => hV0.cell hb, (hV0.cell (by first | assumption | (rw [block_of_add]; assumption))).trans (by assumption), (hV0.cell (by first | assumption | (rw [block_of_add]; assumption))).trans (by assumption)⟩) ?_
      repeat (first | (refine CalmSeq.cons undef (Calm.off (by rfl)) ?_; (try simp only [Act.put, List.setIfInBounds_toArray, List.set_cons_zero, List.set_cons_succ])) | (refine CalmSeq.cons ?_ (Calm.val (by rfl) ?_) ?_; rotate_left; (intro wC hSw; (try dsimp only at hSw); go_simp; done); (try simp only [Act.put, List.setIfInBounds_toArray, List.set_cons_zero, List.set_cons_succ])) | (refine CalmSeq.cons ?_ (Calm.val (by rfl) ?_) ?_; rotate_left; (intro wC hSw; (try dsimp only at hSw); go_simp; with_reducible rfl); (try simp only [Act.put, List.setIfInBounds_toArray, List.set_cons_zero, List.set_cons_succ])) | ((refine CalmSeq.cons ?_ (Calm.call (f := ?_) (args := ?_) (by rfl) ?_ (fun wC hSw => ?_)) ?_; rotate_left 3; (intro wC; go_simp; (refine ⟨?_, ?_⟩ <;> with_reducible rfl)); (go_at_call 13; (with_reducible refine (sameInts_up (hoA.ri.up hSw.1) (hoB.ri.up hSw.1) hpl).mono ?_); rintro e wD ⟨rfl, hbD⟩; apply And.intro; (with_reducible rfl); (have hUD := Up.then_ hSw.1 hbD; exact ⟨hUD, fun _ _ hb => hUD.cell hb, (hUD.cell (by first | assumption | (rw [block_of_add]; assumption))).trans (by assumption), (hUD.cell (by first | assumption | (rw [block_of_add]; assumption))).trans (by assumption)⟩))); (try simp only [Act.put, List.setIfInBounds_toArray, List.set_cons_zero, List.set_cons_succ])))
      intro w2 hS2
      have hU2 : Up wo w2 := hS2.1
      clear hS2 hV0
      go_wp2
      go_roundw
      case rel => exact ⟨k + 1, by omega, by go_num, Up.then_ hU hU2⟩
      case measure => simp [intOf]; omega
    · obtain rfl : k = n := by omega
      go_wp2
      go_ret
      exact ⟨rfl, hU⟩
end Go.Proofs.YthncdjcmlpiebaaGreat
namespace Go.Proofs.YthncdjcmlpiebaaGreat
open Go.RowKit
set_option maxRecDepth 100000 in
theorem sameModel_up {A C A' C' : Option Addr} {n m ca cc ca' cc' : Nat} {L R : List Int} {w : World} (hA : RI w A n L) (hC : RI w C m R) (hA' : RI w A' n L) (hC' : RI w C' m R) (hn : n ≤ 1048576) (hm : m ≤ 1048576) :
    Calls Tryz.prog 14 #[.agg #[.slice A n ca, .slice C m cc], .agg #[.slice A' n ca', .slice C' m cc']] w fun e w' => e = .returned (.bool true) ∧ Below w.heap.size w w' := by
  have hU0 : Up w ((w.alloc (.cells #[.slice A n ca, .slice C m cc] 31)).alloc (.cells #[.slice A' n ca', .slice C' m cc'] 31)) := by go_grown
  have hb2 := (Blk.new w 31 #[.slice A n ca, .slice C m cc]).alloc (.cells #[.slice A' n ca', .slice C' m cc'] 31)
  have hb3 : Blk ((w.alloc (.cells #[.slice A n ca, .slice C m cc] 31)).alloc (.cells #[.slice A' n ca', .slice C' m cc'] 31)) (w.heap.size + 1) 31 #[.slice A' n ca', .slice C' m cc'] := Blk.new_at (by simp)
  replace hA := hA.up hU0
  replace hC := hC.up hU0
  replace hA' := hA'.up hU0
  replace hC' := hC'.up hU0
  have hy2 := hb2.two
  have hy3 := hb3.two
  go_enter Tryz.func14, Tryz.ntmps14
  go_wp2_with fail
  refine (sameInts_up hA hA' hn).mono ?_
  rintro e w1 ⟨rfl, hb1⟩
  have hU1 : Up w w1 := Up.then_ hU0 hb1
  have hz2 := (hb2.up hb1).two
  have hz3 := (hb3.up hb1).two
  go_wp2_with fail
  refine (sameInts_up (hC.up hb1) (hC'.up hb1) hm).mono ?_
  rintro e w4 ⟨rfl, hb4⟩
  have hU4 : Up w w4 := Up.then_ hU1 hb4
  go_wp2
  go_ret
  exact ⟨rfl, hU4⟩
end Go.Proofs.YthncdjcmlpiebaaGreat
