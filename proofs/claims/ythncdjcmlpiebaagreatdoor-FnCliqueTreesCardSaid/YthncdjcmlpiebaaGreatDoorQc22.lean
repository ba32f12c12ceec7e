/- Draws: a graph and a tree of its cliques; trees. -/
import Derived.Test.YthncdjcmlpiebaaGreatDoorQc03
import Derived.Test.YthncdjcmlpiebaaGreatDoorQc10
import Derived.Test.YthncdjcmlpiebaaGreatDoorQc21
import Derived.Deep.RegionLawGrows
import Derived.Deep.Upon
namespace Go.Proofs.YthncdjcmlpiebaaGreatDoor
open Go.RowKit
set_option maxRecDepth 100000 in
theorem src_none (w : World) (size c : Nat) : Src Tryz.prog size 24 (.slice none 0 c) 0 [] w :=
  ⟨.inl ⟨3, Tryz.underlying24⟩, fun _ => rfl, by simp [Builtin.firstCells], by simp [Builtin.firstCells], by simp, fun _ h => by cases h⟩
set_option maxRecDepth 100000 in
/-- 'append([]int{}, xs...)': a new row, or nothing new. -/
theorem step_copy {ops : Array Oper} {o : Oper} {a : Act} {w : World} {K : Act → World → Prop} {Q : Exit → Act → World → Prop} {E : Prop}
    (hgd : o.guard = none) (s x : Operand) (ho : o.op = .call { callee := .builtin .append, args := #[s, x], argTypes := #[24, 24] })
    {m d g : Nat} {D : Option Addr} {ys : List Int} (hs : a.eval s = .slice (some ⟨g, 0, none⟩) 0 0)
    (hx : a.eval x = .slice D m d) (hri : RI w D m ys) (hn : m ≤ 1048576)
    (hK : ∀ A' c' w', RF w' w.heap.size A' m ys → Up w w' → K (a.put o.dst (.slice A' m c')) w') :
    if Region.wanted o (yielded ops a.tmps) = true then Oper.wp Tryz.prog o a w K Q else E := by
  have hl : ys.length = m := hri.1
  rcases Nat.eq_zero_or_pos m with h0 | h0
  · subst h0
    have hw : Region.wanted o (yielded ops a.tmps) = true := by simp [Region.wanted, hgd]
    rw [if_pos hw]
    have hys : ys = [] := List.length_eq_zero_iff.1 hl
    subst hys
    obtain ⟨i0, hi, _, _, _⟩ := info_parts Tryz.info3
    have hsrc : Src Tryz.prog i0.size 24 (.slice D 0 d) 0 [] w := by
      rcases D with _ | ad
      · exact src_none w _ d
      · exact Src.ofSlice w Tryz.underlying24 ad 0 d [] (by simp) (fun j u h => by cases h) (fun _ h => by cases h)
    have hrun := run_append_nothing (P := Tryz.prog) w 24 24 o.type 3 i0 Tryz.underlying24 hi (some ⟨g, 0, none⟩) 0 0 (Nat.zero_le _) (.slice D 0 d) hsrc
    unfold Oper.wp
    simp [execOp, ho, resolve, invoke, builtin, hs, hx, hrun, Result.andThen]
    exact hK _ 0 w ⟨RI.nil_, fun ad e h => absurd h (by omega)⟩ (Up.refl _)
  · obtain ⟨ad, rfl, hc⟩ := hri.2 h0
    obtain ⟨i0, hi, hz0, hz1, hz2⟩ := info_parts Tryz.info3
    refine step_append_grows hgd s x 24 ho 3 i0 (.int .i64 0) 1 8 Tryz.underlying24 hi hz0 hz1 hz2 rfl (by decide) (some ⟨g, 0, none⟩) 0 0 [] hs (fun e => by cases e) (by simp) (fun b _ j u h => by cases h) ad m d (ys.map (Value.int .i64)) hx (by simp [hl]) ?_ ?_ (by omega) (by unfold maxLen; omega) (by omega) ?_
    · intro j u hj
      rw [List.getElem?_map] at hj
      rcases hy : ys[j]? with _ | y
      · rw [hy] at hj; cases hj
      · rw [hy] at hj
        have hj' : j < ys.length := by
          rcases Nat.lt_or_ge j ys.length with h | h
          · exact h
          · rw [List.getElem?_eq_none h] at hy; cases hy
        obtain ⟨ad', e, _, hc⟩ := hri.at_ (k := j) (by omega)
        injection e with e
        subst e
        rw [hc]
        simp only [Option.map_some, Option.some.injEq] at hj
        rw [List.getD_eq_getElem?_getD, hy, ← hj]
        rfl
    · intro u hu
      obtain ⟨y, _, rfl⟩ := List.mem_map.1 hu
      rfl
    · intro v' w' hown' hg
      have hb : Up w w' := (Below.refl _ _).grown hg (Nat.le_refl _) fun k hk => by cases hk
      rw [Nat.zero_add] at hown'
      have hex : ∃ A' c', v' = .slice A' m c' := by
        rcases hown'.2 with ⟨_, h1⟩ | ⟨g, cap, cur, hv, _⟩
        · omega
        · exact ⟨_, _, hv⟩
      obtain ⟨A', c', rfl⟩ := hex
      have ho' : OwnI w' w.heap.size A' m c' ys := by unfold OwnI; rw [List.nil_append] at hown'; exact hown'
      exact hK A' c' w' ho'.rf hb
set_option maxRecDepth 100000 in
/-- Two boxes of results are filled. -/
theorem fin2 {w wr : World} {p q base : Nat} {t1 t2 : TypeId} {x y u v : Value} (U1 U2 V1 V2 : Value) (hp : Blk wr p t1 #[x, y]) (hq : Blk wr q t2 #[u, v]) (hne : p ≠ q) (hb : Below w.heap.size w wr) (hp1 : w.heap.size ≤ p) (hq1 : w.heap.size ≤ q) (hp2 : p < base) (hq2 : q < base) :
    Blk (((((wr.setCell ⟨p, 0, none⟩ U1).setCell ⟨p, 1, none⟩ U2).setCell ⟨q, 0, none⟩ V1).setCell ⟨q, 1, none⟩ V2).drew) p t1 #[U1, U2] ∧ Blk (((((wr.setCell ⟨p, 0, none⟩ U1).setCell ⟨p, 1, none⟩ U2).setCell ⟨q, 0, none⟩ V1).setCell ⟨q, 1, none⟩ V2).drew) q t2 #[V1, V2] ∧
      Below w.heap.size w (((((wr.setCell ⟨p, 0, none⟩ U1).setCell ⟨p, 1, none⟩ U2).setCell ⟨q, 0, none⟩ V1).setCell ⟨q, 1, none⟩ V2).drew) ∧ ∀ (A : Option Addr) (n : Nat) (xs : List Int), RF wr base A n xs → RI (((((wr.setCell ⟨p, 0, none⟩ U1).setCell ⟨p, 1, none⟩ U2).setCell ⟨q, 0, none⟩ V1).setCell ⟨q, 1, none⟩ V2).drew) A n xs := by
  have hne2 := Ne.symm hne
  have b1 := (hp.set_ 0 U1).set_ 1 U2
  have c1 := (hq.far (p := ⟨p, 0, none⟩) hne2 U1).far (p := ⟨p, 1, none⟩) hne2 U2
  refine ⟨((b1.far (p := ⟨q, 0, none⟩) hne V1).far (p := ⟨q, 1, none⟩) hne V2).drew, ((c1.set_ 0 V1).set_ 1 V2).drew, ?_, fun A n xs h => ?_⟩
  · exact ((((hb.setCell (p := ⟨p, 0, none⟩) hp1 U1).setCell (p := ⟨p, 1, none⟩) hp1 U2).setCell (p := ⟨q, 0, none⟩) hq1 V1).setCell (p := ⟨q, 1, none⟩) hq1 V2).drew
  · exact ((((((h.set (p := ⟨p, 0, none⟩) hp2 U1).set (p := ⟨p, 1, none⟩) hp2 U2).set (p := ⟨q, 0, none⟩) hq2 V1).set (p := ⟨q, 1, none⟩) hq2 V2)).up (Below.drew (Up.refl _))).1
set_option maxRecDepth 100000 in
/-- The same, no draw behind. -/
theorem fin3 {w wr : World} {p q base : Nat} {t1 t2 : TypeId} {x y u v : Value} (U1 U2 V1 V2 : Value) (hp : Blk wr p t1 #[x, y]) (hq : Blk wr q t2 #[u, v]) (hne : p ≠ q) (hb : Below w.heap.size w wr) (hp1 : w.heap.size ≤ p) (hq1 : w.heap.size ≤ q) (hp2 : p < base) (hq2 : q < base) :
    Blk (((((wr.setCell ⟨p, 0, none⟩ U1).setCell ⟨p, 1, none⟩ U2).setCell ⟨q, 0, none⟩ V1).setCell ⟨q, 1, none⟩ V2)) p t1 #[U1, U2] ∧ Blk (((((wr.setCell ⟨p, 0, none⟩ U1).setCell ⟨p, 1, none⟩ U2).setCell ⟨q, 0, none⟩ V1).setCell ⟨q, 1, none⟩ V2)) q t2 #[V1, V2] ∧
      Below w.heap.size w (((((wr.setCell ⟨p, 0, none⟩ U1).setCell ⟨p, 1, none⟩ U2).setCell ⟨q, 0, none⟩ V1).setCell ⟨q, 1, none⟩ V2)) ∧ ∀ (A : Option Addr) (n : Nat) (xs : List Int), RF wr base A n xs → RI (((((wr.setCell ⟨p, 0, none⟩ U1).setCell ⟨p, 1, none⟩ U2).setCell ⟨q, 0, none⟩ V1).setCell ⟨q, 1, none⟩ V2)) A n xs := by
  have hne2 := Ne.symm hne
  have b1 := (hp.set_ 0 U1).set_ 1 U2
  have c1 := (hq.far (p := ⟨p, 0, none⟩) hne2 U1).far (p := ⟨p, 1, none⟩) hne2 U2
  refine ⟨((b1.far (p := ⟨q, 0, none⟩) hne V1).far (p := ⟨q, 1, none⟩) hne V2), ((c1.set_ 0 V1).set_ 1 V2), ?_, fun A n xs h => ?_⟩
  · exact ((((hb.setCell (p := ⟨p, 0, none⟩) hp1 U1).setCell (p := ⟨p, 1, none⟩) hp1 U2).setCell (p := ⟨q, 0, none⟩) hq1 V1).setCell (p := ⟨q, 1, none⟩) hq1 V2)
  · exact (((((h.set (p := ⟨p, 0, none⟩) hp2 U1).set (p := ⟨p, 1, none⟩) hp2 U2).set (p := ⟨q, 0, none⟩) hq2 V1).set (p := ⟨q, 1, none⟩) hq2 V2)).1
/-- A graph and a tree. -/
def GraphT (w : World) (e : Ending) (w' : World) : Prop := ∃ N A m d X K k kc J j jc L R, e = .returned (.tuple #[.agg #[.int .i64 N, .slice A m d], .agg #[.slice K k kc, .slice J j jc]]) ∧ RI w' A m X ∧ le6 N X ∧ RI w' K k L ∧ RI w' J j R ∧ k ≤ 128 ∧ j ≤ 128 ∧ Below w.heap.size w w'
/-- A tree and a number. -/
def TreeZ (w : World) (e : Ending) (w' : World) : Prop := ∃ N K k kc J j jc L R, e = .returned (.tuple #[.agg #[.slice K k kc, .slice J j jc], .int .i64 N]) ∧ RI w' K k L ∧ RI w' J j R ∧ k ≤ 128 ∧ j ≤ 128 ∧ Below w.heap.size w w'
/-- Two trees. -/
def TreeT (w : World) (e : Ending) (w' : World) : Prop := ∃ K k kc J j jc L R K2 k2 kc2 J2 j2 jc2 L2 R2, e = .returned (.tuple #[.agg #[.slice K k kc, .slice J j jc], .agg #[.slice K2 k2 kc2, .slice J2 j2 jc2]]) ∧ RI w' K k L ∧ RI w' J j R ∧ RI w' K2 k2 L2 ∧ RI w' J2 j2 R2 ∧ k ≤ 128 ∧ j ≤ 128 ∧ k2 ≤ 128 ∧ j2 ≤ 128 ∧ Below w.heap.size w w'
set_option maxRecDepth 100000 in
set_option maxHeartbeats 4000000 in
theorem drawIsCliqueTree_any (B : Option Addr) (n c : Nat) (bs : List Int) (w : World) (hB : RB w B n bs) (hn : n ≤ 1048576) (hlow : ∀ ad, B = some ad → ad.block < w.heap.size) :
    Calls Tryz.prog 43 #[.slice B n c] w (GraphT w) := by
  have hU0 : Up w ((w.alloc (.cells #[.int .i64 0, .slice none 0 0] 29)).alloc (.cells #[.slice none 0 0, .slice none 0 0] 49)) := by go_grown
  have hR0 := (Blk.new w 29 #[.int .i64 0, .slice none 0 0]).alloc (.cells #[.slice none 0 0, .slice none 0 0] 49)
  have hQ0 : Blk ((w.alloc (.cells #[.int .i64 0, .slice none 0 0] 29)).alloc (.cells #[.slice none 0 0, .slice none 0 0] 49)) (w.heap.size + 1) 49 #[.slice none 0 0, .slice none 0 0] := Blk.new_at (by simp)
  have hs0 : ((w.alloc (.cells #[.int .i64 0, .slice none 0 0] 29)).alloc (.cells #[.slice none 0 0, .slice none 0 0] 49)).heap.size = w.heap.size + 2 := by simp
  obtain ⟨gq, hgq⟩ : ∃ gq, gq = w.heap.size + 1 := ⟨_, rfl⟩
  obtain ⟨gr, hgr⟩ : ∃ gr, gr = w.heap.size := ⟨_, rfl⟩
  go_enter Tryz.func43, Tryz.ntmps43
  go_wp2_with fail
  refine (l1New_any B n c bs _ (hB.up hU0) hn (fun ad e => by have := hlow ad e; omega)).mono ?_
  rintro e w1 ⟨g, rfl, hC1, hb1, hg1⟩
  have hR1 := hR0.up hb1
  have hQ1 := hQ0.up hb1
  have hU1 := Up.then_ hU0 hb1
  rw [← hgq] at hQ1 ⊢
  rw [← hgr] at hR1 ⊢
  have hgr' : w.heap.size ≤ gr := by omega
  have hgq' : w.heap.size ≤ gq := by omega
  have hlr : gr < g := by omega
  have hlq : gq < g := by omega
  have hlg : w.heap.size ≤ g := by omega
  have hne : gr ≠ gq := by omega
  have hne2 := Ne.symm hne
  clear hgr hgq hR0 hQ0 hs0 hb1 hg1 hU0 hB hlow
  have hlt := hC1.lt
  go_wp2_with fail
  refine (l8Tree_any hC1).mono ?_
  rintro e w2 ⟨v, rfl, ⟨N, A, m, d, X, K, k, kc, J, j, jc, L, R, rfl, ho, hX, hK, hJ, hk, hj⟩, hC2, hg2⟩
  have hR2 := hR1.grown hg2 (fun e => by injection e with e; omega)
  have hQ2 := hQ1.grown hg2 (fun e => by injection e with e; omega)
  have hU2 := hU1.grown hg2 hU1.size (fun k hk => by injection hk with hk; omega)
  have hA := ho.rf
  have hs2 := hg2.size
  clear hR1 hQ1 hU1 hC1 hg2 ho
  have hU3 : Up w2 ((w2.alloc (.cells #[.int .i64 N, .slice A m d] 29)).alloc (.cells #[.slice K k kc, .slice J j jc] 49)) := by go_grown
  have hb3 := (Blk.new w2 29 #[.int .i64 N, .slice A m d]).alloc (.cells #[.slice K k kc, .slice J j jc] 49)
  have ht3 : Blk ((w2.alloc (.cells #[.int .i64 N, .slice A m d] 29)).alloc (.cells #[.slice K k kc, .slice J j jc] 49)) (w2.heap.size + 1) 49 #[.slice K k kc, .slice J j jc] := Blk.new_at (by simp)
  have hR3 := hR2.up hU3
  have hQ3 := hQ2.up hU3
  have hC3 := hC2.up hU3
  have hU4 := Up.then_ hU2 hU3
  replace hA := hA.up hU3
  replace hK := hK.up hU3
  replace hJ := hJ.up hU3
  have hs3 := hU3.size
  obtain ⟨gt, hgt⟩ : ∃ gt, gt = w2.heap.size + 1 := ⟨_, rfl⟩
  obtain ⟨gb, hgb⟩ : ∃ gb, gb = w2.heap.size := ⟨_, rfl⟩
  rw [← hgt] at ht3
  rw [← hgb] at hb3
  have h1 : gb ≠ gr := by omega
  have h2 := Ne.symm h1
  have h3 : gb ≠ gq := by omega
  have h4 := Ne.symm h3
  have h5 : gt ≠ gr := by omega
  have h6 := Ne.symm h5
  have h7 : gt ≠ gq := by omega
  have h8 := Ne.symm h7
  have h9 : g < gt := by omega
  have h10 : g < gb := by omega
  go_wp2_with fail
  rw [← hgt]
  rw [← hgb]
  clear hgt hgb
  generalize ((w2.alloc (.cells #[.int .i64 N, .slice A m d] 29)).alloc (.cells #[.slice K k kc, .slice J j jc] 49)) = w3 at hb3 ht3 hR3 hQ3 hC3 hU4 hA hK hJ hs3 ⊢
  clear hR2 hQ2 hU2 hU3 hC2
  have hyb := hb3.two
  have hyt := ht3.two
  have hyr := hR3.two
  have hf0 := hR3.frozen 0
  have hf1 := hR3.frozen 1
  have hyq := hQ3.two
  have hq0 := hQ3.frozen 0
  have hq1 := hQ3.frozen 1
  obtain ⟨r1, r2, f1, f2⟩ := fin2 (base := w1.heap.size) (.int .i64 N) (.slice A m d) (.slice K k kc) (.slice J j jc) hR3 hQ3 hne hU4 hgr' hgq' (by omega) (by omega)
  replace r1 := r1.two
  replace r2 := r2.two
  have g1 := f2 _ _ _ hA
  have g2 := f2 _ _ _ hK
  have g3 := f2 _ _ _ hJ
  clear f2 hR3 hQ3 hU4 hb3 ht3
  go_wp2_with fail
  go_region
  all_goals
    go_wp2
    generalize ((((w3.setCell ⟨gr, 0, none⟩ (.int .i64 N)).setCell ⟨gr, 1, none⟩ (.slice A m d)).setCell ⟨gq, 0, none⟩ (.slice K k kc)).setCell ⟨gq, 1, none⟩ (.slice J j jc)).drew = Wf at f1 g1 g2 g3 r1 r2 ⊢
    refine bodyPost_ret (v := .tuple #[.agg #[.int .i64 N, .slice A m d], .agg #[.slice K k kc, .slice J j jc]]) ?_ rfl ?_
    · simp [results, Tryz.results43, go_sem, r1, r2]
    exact ⟨N, A, m, d, X, K, k, kc, J, j, jc, L, R, rfl, g1, hX, g2, g3, hk, hj, f1⟩
set_option maxRecDepth 100000 in
set_option maxHeartbeats 4000000 in
theorem drawGraphOfTree_any (B : Option Addr) (n c : Nat) (bs : List Int) (w : World) (hB : RB w B n bs) (hn : n ≤ 1048576) (hlow : ∀ ad, B = some ad → ad.block < w.heap.size) :
    Calls Tryz.prog 44 #[.slice B n c] w (TreeZ w) := by
  have hU0 : Up w (w.alloc (.cells #[.slice none 0 0, .slice none 0 0] 49)) := by go_grown
  have hR0 := Blk.new w 49 #[.slice none 0 0, .slice none 0 0]
  have hs0 : (w.alloc (.cells #[.slice none 0 0, .slice none 0 0] 49)).heap.size = w.heap.size + 1 := by simp
  obtain ⟨gr, hgr⟩ : ∃ gr, gr = w.heap.size := ⟨_, rfl⟩
  go_enter Tryz.func44, Tryz.ntmps44
  go_wp2_with fail
  refine (l1New_any B n c bs _ (hB.up hU0) hn (fun ad e => by have := hlow ad e; omega)).mono ?_
  rintro e w1 ⟨g, rfl, hC1, hb1, hg1⟩
  have hR1 := hR0.up hb1
  have hU1 := Up.then_ hU0 hb1
  rw [← hgr] at hR1 ⊢
  have hgr' : w.heap.size ≤ gr := by omega
  have hlr : gr < g := by omega
  have hlg : w.heap.size ≤ g := by omega
  clear hgr hR0 hs0 hb1 hg1 hU0 hB hlow
  have hlt := hC1.lt
  go_wp2_with fail
  refine (l8Tree_any hC1).mono ?_
  rintro e w2 ⟨v, rfl, ⟨N, A, m, d, X, K, k, kc, J, j, jc, L, R, rfl, ho, hX, hK, hJ, hk, hj⟩, hC2, hg2⟩
  have hR2 := hR1.grown hg2 (fun e => by injection e with e; omega)
  have hU2 := hU1.grown hg2 hU1.size (fun k hk => by injection hk with hk; omega)
  have hs2 := hg2.size
  clear hR1 hU1 hC1 hC2 hg2 ho
  have hU3 : Up w2 ((w2.alloc (.cells #[.int .i64 N, .slice A m d] 29)).alloc (.cells #[.slice K k kc, .slice J j jc] 49)) := by go_grown
  have hb3 := (Blk.new w2 29 #[.int .i64 N, .slice A m d]).alloc (.cells #[.slice K k kc, .slice J j jc] 49)
  have ht3 : Blk ((w2.alloc (.cells #[.int .i64 N, .slice A m d] 29)).alloc (.cells #[.slice K k kc, .slice J j jc] 49)) (w2.heap.size + 1) 49 #[.slice K k kc, .slice J j jc] := Blk.new_at (by simp)
  have hR3 := hR2.up hU3
  have hU4 := Up.then_ hU2 hU3
  replace hK := hK.up hU3
  replace hJ := hJ.up hU3
  obtain ⟨gt, hgt⟩ : ∃ gt, gt = w2.heap.size + 1 := ⟨_, rfl⟩
  obtain ⟨gb, hgb⟩ : ∃ gb, gb = w2.heap.size := ⟨_, rfl⟩
  rw [← hgt] at ht3
  rw [← hgb] at hb3
  have h1 : gb ≠ gr := by omega
  have h2 := Ne.symm h1
  have h5 : gt ≠ gr := by omega
  have h6 := Ne.symm h5
  go_wp2_with fail
  rw [← hgt]
  rw [← hgb]
  clear hgt hgb
  generalize ((w2.alloc (.cells #[.int .i64 N, .slice A m d] 29)).alloc (.cells #[.slice K k kc, .slice J j jc] 49)) = w3 at hb3 ht3 hR3 hU4 hK hJ ⊢
  clear hR2 hU2 hU3
  have hyb := hb3.two
  have hyt := ht3.two
  have hyr := hR3.two
  have hf0 := hR3.frozen 0
  have hf1 := hR3.frozen 1
  have k1 := ((hR3.set_ 0 (.slice K k kc)).set_ 1 (.slice J j jc)).drew.two
  have f1 := ((hU4.setCell (p := ⟨gr, 0, none⟩) hgr' (.slice K k kc)).setCell (p := ⟨gr, 1, none⟩) hgr' (.slice J j jc)).drew
  have hlr1 : gr < w1.heap.size := by omega
  have g2 := (((hK.set (p := ⟨gr, 0, none⟩) hlr1 (.slice K k kc)).set (p := ⟨gr, 1, none⟩) hlr1 (.slice J j jc)).up (Below.drew (Up.refl _))).1
  have g3 := (((hJ.set (p := ⟨gr, 0, none⟩) hlr1 (.slice K k kc)).set (p := ⟨gr, 1, none⟩) hlr1 (.slice J j jc)).up (Below.drew (Up.refl _))).1
  clear hR3 hU4 hb3 ht3 hK hJ
  go_wp2_with fail
  go_region
  all_goals
    go_wp2
    generalize ((w3.setCell ⟨gr, 0, none⟩ (.slice K k kc)).setCell ⟨gr, 1, none⟩ (.slice J j jc)).drew = Wf at f1 g2 g3 k1 ⊢
    refine bodyPost_ret (v := .tuple #[.agg #[.slice K k kc, .slice J j jc], .int .i64 N]) ?_ rfl ?_
    · simp [results, Tryz.results44, go_sem, k1]
    exact ⟨N, K, k, kc, J, j, jc, L, R, rfl, g2, g3, hk, hj, f1⟩
set_option maxRecDepth 100000 in
set_option maxHeartbeats 4000000 in
theorem drawEqualTrees_any (B : Option Addr) (n c : Nat) (bs : List Int) (w : World) (hB : RB w B n bs) (hn : n ≤ 1048576) (hlow : ∀ ad, B = some ad → ad.block < w.heap.size) :
    Calls Tryz.prog 46 #[.slice B n c] w (TreeT w) := by
  have hU0 : Up w ((w.alloc (.cells #[.slice none 0 0, .slice none 0 0] 49)).alloc (.cells #[.slice none 0 0, .slice none 0 0] 49)) := by go_grown
  have hR0 := (Blk.new w 49 #[.slice none 0 0, .slice none 0 0]).alloc (.cells #[.slice none 0 0, .slice none 0 0] 49)
  have hQ0 : Blk ((w.alloc (.cells #[.slice none 0 0, .slice none 0 0] 49)).alloc (.cells #[.slice none 0 0, .slice none 0 0] 49)) (w.heap.size + 1) 49 #[.slice none 0 0, .slice none 0 0] := Blk.new_at (by simp)
  have hs0 : ((w.alloc (.cells #[.slice none 0 0, .slice none 0 0] 49)).alloc (.cells #[.slice none 0 0, .slice none 0 0] 49)).heap.size = w.heap.size + 2 := by simp
  obtain ⟨gq, hgq⟩ : ∃ gq, gq = w.heap.size + 1 := ⟨_, rfl⟩
  obtain ⟨gr, hgr⟩ : ∃ gr, gr = w.heap.size := ⟨_, rfl⟩
  go_enter Tryz.func46, Tryz.ntmps46
  go_wp2_with fail
  refine (l1New_any B n c bs _ (hB.up hU0) hn (fun ad e => by have := hlow ad e; omega)).mono ?_
  rintro e w1 ⟨g, rfl, hC1, hb1, hg1⟩
  have hR1 := hR0.up hb1
  have hQ1 := hQ0.up hb1
  have hU1 := Up.then_ hU0 hb1
  rw [← hgq] at hQ1 ⊢
  rw [← hgr] at hR1 ⊢
  have hgr' : w.heap.size ≤ gr := by omega
  have hgq' : w.heap.size ≤ gq := by omega
  have hlr : gr < g := by omega
  have hlq : gq < g := by omega
  have hlg : w.heap.size ≤ g := by omega
  have hne : gr ≠ gq := by omega
  have hne2 := Ne.symm hne
  clear hgr hgq hR0 hQ0 hs0 hb1 hg1 hU0 hB hlow
  have hlt := hC1.lt
  go_wp2_with fail
  refine (l8Tree_any hC1).mono ?_
  rintro e w2 ⟨v, rfl, ⟨N, A, m, d, X, K, k, kc, J, j, jc, L, R, rfl, ho, hX, hK, hJ, hk, hj⟩, hC2, hg2⟩
  have hR2 := hR1.grown hg2 (fun e => by injection e with e; omega)
  have hQ2 := hQ1.grown hg2 (fun e => by injection e with e; omega)
  have hU2 := hU1.grown hg2 hU1.size (fun k hk => by injection hk with hk; omega)
  have hA := ho.rf
  have hs2 := hg2.size
  clear hR1 hQ1 hU1 hC1 hg2 ho
  have hU3 : Up w2 ((w2.alloc (.cells #[.int .i64 N, .slice A m d] 29)).alloc (.cells #[.slice K k kc, .slice J j jc] 49)) := by go_grown
  have hb3 := (Blk.new w2 29 #[.int .i64 N, .slice A m d]).alloc (.cells #[.slice K k kc, .slice J j jc] 49)
  have ht3 : Blk ((w2.alloc (.cells #[.int .i64 N, .slice A m d] 29)).alloc (.cells #[.slice K k kc, .slice J j jc] 49)) (w2.heap.size + 1) 49 #[.slice K k kc, .slice J j jc] := Blk.new_at (by simp)
  have hR3 := hR2.up hU3
  have hQ3 := hQ2.up hU3
  have hC3 := hC2.up hU3
  have hU4 := Up.then_ hU2 hU3
  replace hA := hA.up hU3
  replace hK := hK.up hU3
  replace hJ := hJ.up hU3
  have hs3 := hU3.size
  obtain ⟨gt, hgt⟩ : ∃ gt, gt = w2.heap.size + 1 := ⟨_, rfl⟩
  obtain ⟨gb, hgb⟩ : ∃ gb, gb = w2.heap.size := ⟨_, rfl⟩
  rw [← hgt] at ht3
  rw [← hgb] at hb3
  have h1 : gb ≠ gr := by omega
  have h2 := Ne.symm h1
  have h3 : gb ≠ gq := by omega
  have h4 := Ne.symm h3
  have h5 : gt ≠ gr := by omega
  have h6 := Ne.symm h5
  have h7 : gt ≠ gq := by omega
  have h8 := Ne.symm h7
  have h9 : g < gt := by omega
  have h10 : g < gb := by omega
  go_wp2_with fail
  rw [← hgt]
  rw [← hgb]
  clear hgt hgb
  generalize ((w2.alloc (.cells #[.int .i64 N, .slice A m d] 29)).alloc (.cells #[.slice K k kc, .slice J j jc] 49)) = w3 at hb3 ht3 hR3 hQ3 hC3 hU4 hA hK hJ hs3 ⊢
  clear hR2 hQ2 hU2 hU3 hC2
  refine (l1Once_any hC3 2 (by omega) (by omega)).mono ?_
  rintro e w4 ⟨v, rfl, ⟨q, rfl⟩, hC4, hg4⟩
  replace hb3 := hb3.grown hg4 (fun e => by injection e with e; omega)
  replace ht3 := ht3.grown hg4 (fun e => by injection e with e; omega)
  replace hR3 := hR3.grown hg4 (fun e => by injection e with e; omega)
  replace hQ3 := hQ3.grown hg4 (fun e => by injection e with e; omega)
  replace hU4 := hU4.grown hg4 hU4.size (fun k hk => by injection hk with hk; omega)
  replace hK := hK.gb hg4 hlt
  replace hJ := hJ.gb hg4 hlt
  have hs4 := hg4.size
  have hlr4 := hR3.lt
  have hlt4 := ht3.lt
  have hlb4 := hb3.lt
  have hlq4 := hQ3.lt
  clear hC3 hg4 hA
  cases q
  · skip
    go_wp2_with fail
    refine (l8Tree_any hC4).mono ?_
    rintro e w5 ⟨v, rfl, ⟨N2, A2, m2, d2, X2, K2, k2, kc2, J2, j2, jc2, L2, R2, rfl, _, _, hK2, hJ2, hk2, hj2⟩, hC5, hg5⟩
    have hs5 := hg5.size
    replace ht3 := ht3.grown hg5 (fun e => by injection e with e; omega)
    replace hR3 := hR3.grown hg5 (fun e => by injection e with e; omega)
    replace hQ3 := hQ3.grown hg5 (fun e => by injection e with e; omega)
    replace hU4 := hU4.grown hg5 hU4.size (fun k hk => by injection hk with hk; omega)
    replace hK := hK.gb hg5 hlt
    replace hJ := hJ.gb hg5 hlt
    replace hK2 := hK2.more (base' := w1.heap.size) (by omega)
    replace hJ2 := hJ2.more (base' := w1.heap.size) (by omega)
    have hU6 : Up w5 ((w5.alloc (.cells #[.int .i64 N2, .slice A2 m2 d2] 29)).alloc (.cells #[.slice K2 k2 kc2, .slice J2 j2 jc2] 49)) := by go_grown
    have hv3 : Blk ((w5.alloc (.cells #[.int .i64 N2, .slice A2 m2 d2] 29)).alloc (.cells #[.slice K2 k2 kc2, .slice J2 j2 jc2] 49)) (w5.heap.size + 1) 49 #[.slice K2 k2 kc2, .slice J2 j2 jc2] := Blk.new_at (by simp)
    replace ht3 := ht3.up hU6
    replace hR3 := hR3.up hU6
    replace hQ3 := hQ3.up hU6
    replace hU4 := Up.then_ hU4 hU6
    replace hK := hK.up hU6
    replace hJ := hJ.up hU6
    replace hK2 := hK2.up hU6
    replace hJ2 := hJ2.up hU6
    obtain ⟨gv, hgv⟩ : ∃ gv, gv = w5.heap.size + 1 := ⟨_, rfl⟩
    rw [← hgv] at hv3
    have h11 : gv ≠ gr := by omega
    have h12 := Ne.symm h11
    have h13 : gv ≠ gq := by omega
    have h14 := Ne.symm h13
    clear hC5 hg5 hb3 hC4
    go_wp2_with fail
    rw [← hgv]
    clear hgv
    generalize ((w5.alloc (.cells #[.int .i64 N2, .slice A2 m2 d2] 29)).alloc (.cells #[.slice K2 k2 kc2, .slice J2 j2 jc2] 49)) = w6 at ht3 hv3 hR3 hQ3 hU4 hK hJ hK2 hJ2 ⊢
    clear hU6
    have hyb := ht3.two
    have hyt := hv3.two
    have hyr := hR3.two
    have hf0 := hR3.frozen 0
    have hf1 := hR3.frozen 1
    have hyq := hQ3.two
    have hq0 := hQ3.frozen 0
    have hq1 := hQ3.frozen 1
    obtain ⟨r1, r2, f1, f2⟩ := fin2 (base := w1.heap.size) (.slice K k kc) (.slice J j jc) (.slice K2 k2 kc2) (.slice J2 j2 jc2) hR3 hQ3 hne hU4 hgr' hgq' (by omega) (by omega)
    replace r1 := r1.two
    replace r2 := r2.two
    have g1 := f2 _ _ _ hK
    have g2 := f2 _ _ _ hJ
    have g3 := f2 _ _ _ hK2
    have g4 := f2 _ _ _ hJ2
    clear f2 hR3 hQ3 hU4 ht3 hv3
    go_wp2_with fail
    go_region
    all_goals
      go_wp2
      generalize ((((w6.setCell ⟨gr, 0, none⟩ (.slice K k kc)).setCell ⟨gr, 1, none⟩ (.slice J j jc)).setCell ⟨gq, 0, none⟩ (.slice K2 k2 kc2)).setCell ⟨gq, 1, none⟩ (.slice J2 j2 jc2)).drew = Wf at f1 g1 g2 g3 g4 r1 r2 ⊢
      refine bodyPost_ret (v := .tuple #[.agg #[.slice K k kc, .slice J j jc], .agg #[.slice K2 k2 kc2, .slice J2 j2 jc2]]) ?_ rfl ?_
      · simp [results, Tryz.results46, go_sem, r1, r2]
      exact ⟨K, k, kc, J, j, jc, L, R, K2, k2, kc2, J2, j2, jc2, L2, R2, rfl, g1, g2, g3, g4, hk, hj, hk2, hj2, f1⟩
  · skip
    clear hC4 hb3 h10 h9 h1 h2 h3 h4
    have hKr := hK
    have hJr := hJ
    clear hK hJ
    have hyt := ht3.two
    go_wp2_with fail
    refine wp_region_held_drew (S := fun w' => w'.cell? ⟨gt, 0, none⟩ = some (.slice K k kc) ∧ w'.cell? ⟨gt, 1, none⟩ = some (.slice J j jc)) (by kernel_rfl) (by exact (ht3.up (Below.drew (Up.refl _))).two) (fun hHeld => ?_)
    refine wpAnyH_take (i := 0) (v := ?_) rfl (by kernel_rfl) (by kernel_rfl) (by kernel_rfl) (fun _ _ _ h => h) (Or.inl ⟨by rfl, ?_⟩) (by assumption) ?_
    rotate_left
    · (intro w' hSw; go_simp; try with_reducible rfl)
    (try simp only [List.getElem_toArray]); (try simp only [List.getElem_cons_succ]); (try simp only [List.getElem_cons_zero]); (try simp only [Act.put]); (try simp only [List.setIfInBounds_toArray]); (try simp only [List.set_cons_succ]); (try simp only [List.set_cons_zero])
    refine wpAnyH_take (i := 2) (v := ?_) rfl (by kernel_rfl) (by kernel_rfl) (by kernel_rfl) (fun _ _ _ h => h) (Or.inl ⟨by rfl, ?_⟩) (by assumption) ?_
    rotate_left
    · (intro w' hSw; go_simp; try with_reducible rfl)
    (try simp only [List.getElem_toArray]); (try simp only [List.getElem_cons_succ]); (try simp only [List.getElem_cons_zero]); (try simp only [Act.put]); (try simp only [List.setIfInBounds_toArray]); (try simp only [List.set_cons_succ]); (try simp only [List.set_cons_zero])
    refine wpAnyH_take (i := 3) (v := ?_) rfl (by kernel_rfl) (by kernel_rfl) (by kernel_rfl) (fun _ _ _ h => h) (Or.inl ⟨by rfl, ?_⟩) (by assumption) ?_
    rotate_left
    · (intro w' hSw; go_simp; try with_reducible rfl)
    (try simp only [List.getElem_toArray]); (try simp only [List.getElem_cons_succ]); (try simp only [List.getElem_cons_zero]); (try simp only [Act.put]); (try simp only [List.setIfInBounds_toArray]); (try simp only [List.set_cons_succ]); (try simp only [List.set_cons_zero])
    refine wpAnyH_take (i := 6) (v := ?_) rfl (by kernel_rfl) (by kernel_rfl) (by kernel_rfl) (fun _ _ _ h => h) (Or.inl ⟨by rfl, ?_⟩) (by assumption) ?_
    rotate_left
    · (intro w' hSw; go_simp; try with_reducible rfl)
    (try simp only [List.getElem_toArray]); (try simp only [List.getElem_cons_succ]); (try simp only [List.getElem_cons_zero]); (try simp only [Act.put]); (try simp only [List.setIfInBounds_toArray]); (try simp only [List.set_cons_succ]); (try simp only [List.set_cons_zero])
    refine wpAnyH_take (i := 7) (v := ?_) rfl (by kernel_rfl) (by kernel_rfl) (by kernel_rfl) (fun _ _ _ h => h) (Or.inl ⟨by rfl, ?_⟩) (by assumption) ?_
    rotate_left
    · (intro w' hSw; go_simp; try with_reducible rfl)
    (try simp only [List.getElem_toArray]); (try simp only [List.getElem_cons_succ]); (try simp only [List.getElem_cons_zero]); (try simp only [Act.put]); (try simp only [List.setIfInBounds_toArray]); (try simp only [List.set_cons_succ]); (try simp only [List.set_cons_zero])
    refine wpAnyH_ready (rs := [1, 5]) (by kernel_rfl) (by simp) ?_
    refine AllReadyH.cons rfl (fun K hK => ?_) (AllReadyH.cons rfl (fun K hK => ?_) AllReadyH.nil)
    · go_simp
      refine hK.out _ _ (by exact (ht3.up (by first | (go_grown; done) | exact Below.drew (by go_grown))).two) (fun hHelda1 => ?_)
      clear hK K
      (try simp only [List.getElem_toArray]); (try simp only [List.getElem_cons_succ]); (try simp only [List.getElem_cons_zero]); (try simp only [Act.put]); (try simp only [List.setIfInBounds_toArray]); (try simp only [List.set_cons_succ]); (try simp only [List.set_cons_zero])
      refine wpAnyH_ready (rs := [4, 5]) (by kernel_rfl) (by simp) ?_
      refine AllReadyH.cons rfl (fun K hK => ?_) (AllReadyH.cons rfl (fun K hK => ?_) AllReadyH.nil)
      · refine step_copy rfl (.tmp 19) (.tmp 21) rfl rfl rfl (hKr.up (by first | (go_grown; done) | exact Below.drew (by go_grown))).1 (by omega) ?_
        intro A7 c7 w7 hK7 hb7
        have hU7 : Up w4 w7 := Up.then_ (by first | (go_grown; done) | exact Below.drew (by go_grown)) hb7
        replace hK7 := hK7.more (base' := w4.heap.size) (by simp <;> omega)
        refine hK.out _ _ (by exact (ht3.up hU7).two) (fun hHeldp7 => ?_)
        clear hK K
        (try simp only [List.getElem_toArray]); (try simp only [List.getElem_cons_succ]); (try simp only [List.getElem_cons_zero]); (try simp only [Act.put]); (try simp only [List.setIfInBounds_toArray]); (try simp only [List.set_cons_succ]); (try simp only [List.set_cons_zero])
        refine wpAnyH_ready (rs := [5]) (by kernel_rfl) (by simp) ?_
        refine AllReadyH.cons rfl (fun K hK => ?_) AllReadyH.nil
        go_simp
        refine hK.out _ _ (by exact (ht3.up (Up.then_ hU7 (by go_grown))).two) (fun hHelda5 => ?_)
        clear hK K
        (try simp only [List.getElem_toArray]); (try simp only [List.getElem_cons_succ]); (try simp only [List.getElem_cons_zero]); (try simp only [Act.put]); (try simp only [List.setIfInBounds_toArray]); (try simp only [List.set_cons_succ]); (try simp only [List.set_cons_zero])
        refine wpAnyH_ready (rs := [8]) (by kernel_rfl) (by simp) ?_
        refine AllReadyH.cons rfl (fun K hK => ?_) AllReadyH.nil
        refine step_copy rfl (.tmp 23) (.tmp 25) rfl rfl rfl (hJr.up (Up.then_ hU7 (by go_grown))).1 (by omega) ?_
        intro A8 c8 w8 hJ8 hb8
        have hU8 : Up w7 w8 := Up.then_ (by go_grown) hb8
        have hU9 : Up w4 w8 := Up.then_ hU7 hU8
        replace hJ8 := hJ8.more (base' := w4.heap.size) (Nat.le_trans hU7.size (by simp <;> omega))
        refine hK.out _ _ (by exact (ht3.up hU9).two) (fun hHeldp8 => ?_)
        clear hK K
        (try simp only [List.getElem_toArray]); (try simp only [List.getElem_cons_succ]); (try simp only [List.getElem_cons_zero]); (try simp only [Act.put]); (try simp only [List.setIfInBounds_toArray]); (try simp only [List.set_cons_succ]); (try simp only [List.set_cons_zero])
        replace hK7 := hK7.up hU8
        have hR8 := hR3.up hU9
        have hQ8 := hQ3.up hU9
        have hK8 := hKr.up hU9
        have hJ9 := hJr.up hU9
        have hU10 := Up.then_ hU4 hU9
        have hyr8 := hR8.two
        have hf80 := hR8.frozen 0
        have hf81 := hR8.frozen 1
        have hyq8 := hQ8.two
        have hq80 := hQ8.frozen 0
        have hq81 := hQ8.frozen 1
        refine wpAnyH_take (i := 9) (v := ?_) rfl (by kernel_rfl) (by kernel_rfl) (by kernel_rfl) (fun _ _ _ h => h) (Or.inl ⟨by rfl, ?_⟩) (by assumption) ?_
        rotate_left
        · (intro w' hSw; go_simp; try with_reducible rfl)
        (try simp only [List.getElem_toArray]); (try simp only [List.getElem_cons_succ]); (try simp only [List.getElem_cons_zero]); (try simp only [Act.put]); (try simp only [List.setIfInBounds_toArray]); (try simp only [List.set_cons_succ]); (try simp only [List.set_cons_zero])
        refine wpAnyH_ready (rs := [10]) (by kernel_rfl) (by simp) ?_
        refine AllReadyH.cons rfl (fun K hK => ?_) AllReadyH.nil
        go_simp
        refine hK.out _ _ (by exact (((ht3.up hU9).far (p := ⟨gr, 0, none⟩) h5 _).far (p := ⟨gr, 1, none⟩) h5 _).two) (fun hHelds1 => ?_)
        clear hK K
        (try simp only [List.getElem_toArray]); (try simp only [List.getElem_cons_succ]); (try simp only [List.getElem_cons_zero]); (try simp only [Act.put]); (try simp only [List.setIfInBounds_toArray]); (try simp only [List.set_cons_succ]); (try simp only [List.set_cons_zero])
        refine wpAnyH_ready (rs := [11]) (by kernel_rfl) (by simp) ?_
        refine AllReadyH.cons rfl (fun K hK => ?_) AllReadyH.nil
        go_simp
        refine hK.out _ _ (by exact (((((ht3.up hU9).far (p := ⟨gr, 0, none⟩) h5 _).far (p := ⟨gr, 1, none⟩) h5 _).far (p := ⟨gq, 0, none⟩) h7 _).far (p := ⟨gq, 1, none⟩) h7 _).two) (fun hHelds2 => ?_)
        clear hK K
        (try simp only [List.getElem_toArray]); (try simp only [List.getElem_cons_succ]); (try simp only [List.getElem_cons_zero]); (try simp only [Act.put]); (try simp only [List.setIfInBounds_toArray]); (try simp only [List.set_cons_succ]); (try simp only [List.set_cons_zero])
        refine wpAnyH_done (by kernel_rfl) ?_ _
        obtain ⟨r1, r2, f1, f2⟩ := fin3 (base := w1.heap.size) (.slice K k kc) (.slice J j jc) (.slice A7 k c7) (.slice A8 j c8) hR8 hQ8 hne hU10 hgr' hgq' (by omega) (by omega)
        replace r1 := r1.two
        replace r2 := r2.two
        have g1 := f2 _ _ _ hK8
        have g2 := f2 _ _ _ hJ9
        have g3 := f2 _ _ _ (hK7.more (base' := w1.heap.size) (by omega))
        have g4 := f2 _ _ _ (hJ8.more (base' := w1.heap.size) (by omega))
        clear f2 hR8 hQ8 hU10 hK8 hJ9
        go_wp2
        generalize (((w8.setCell ⟨gr, 0, none⟩ (.slice K k kc)).setCell ⟨gr, 1, none⟩ (.slice J j jc)).setCell ⟨gq, 0, none⟩ (.slice A7 k c7)).setCell ⟨gq, 1, none⟩ (.slice A8 j c8) = Wf at f1 g1 g2 g3 g4 r1 r2 ⊢
        refine bodyPost_ret (v := .tuple #[.agg #[.slice K k kc, .slice J j jc], .agg #[.slice A7 k c7, .slice A8 j c8]]) ?_ rfl ?_
        · simp [results, Tryz.results46, go_sem, r1, r2]
        exact ⟨K, k, kc, J, j, jc, L, R, A7, k, c7, A8, j, c8, L, R, rfl, g1, g2, g3, g4, hk, hj, hk, hj, f1⟩
      · go_simp
        refine hK.out _ _ (by exact (ht3.up (by first | (go_grown; done) | exact Below.drew (by go_grown))).two) (fun hHelda5 => ?_)
        clear hK K
        (try simp only [List.getElem_toArray]); (try simp only [List.getElem_cons_succ]); (try simp only [List.getElem_cons_zero]); (try simp only [Act.put]); (try simp only [List.setIfInBounds_toArray]); (try simp only [List.set_cons_succ]); (try simp only [List.set_cons_zero])
        refine wpAnyH_ready (rs := [4]) (by kernel_rfl) (by simp) ?_
        refine AllReadyH.cons rfl (fun K hK => ?_) AllReadyH.nil
        refine step_copy rfl (.tmp 19) (.tmp 21) rfl rfl rfl (hKr.up (by first | (go_grown; done) | exact Below.drew (by go_grown))).1 (by omega) ?_
        intro A7 c7 w7 hK7 hb7
        have hU7 : Up w4 w7 := Up.then_ (by first | (go_grown; done) | exact Below.drew (by go_grown)) hb7
        replace hK7 := hK7.more (base' := w4.heap.size) (by simp <;> omega)
        refine hK.out _ _ (by exact (ht3.up hU7).two) (fun hHeldp7 => ?_)
        clear hK K
        (try simp only [List.getElem_toArray]); (try simp only [List.getElem_cons_succ]); (try simp only [List.getElem_cons_zero]); (try simp only [Act.put]); (try simp only [List.setIfInBounds_toArray]); (try simp only [List.set_cons_succ]); (try simp only [List.set_cons_zero])
        refine wpAnyH_ready (rs := [8]) (by kernel_rfl) (by simp) ?_
        refine AllReadyH.cons rfl (fun K hK => ?_) AllReadyH.nil
        refine step_copy rfl (.tmp 23) (.tmp 25) rfl rfl rfl (hJr.up hU7).1 (by omega) ?_
        intro A8 c8 w8 hJ8 hb8
        have hU8 : Up w7 w8 := hb8
        have hU9 : Up w4 w8 := Up.then_ hU7 hU8
        replace hJ8 := hJ8.more (base' := w4.heap.size) hU7.size
        refine hK.out _ _ (by exact (ht3.up hU9).two) (fun hHeldp8 => ?_)
        clear hK K
        (try simp only [List.getElem_toArray]); (try simp only [List.getElem_cons_succ]); (try simp only [List.getElem_cons_zero]); (try simp only [Act.put]); (try simp only [List.setIfInBounds_toArray]); (try simp only [List.set_cons_succ]); (try simp only [List.set_cons_zero])
        replace hK7 := hK7.up hU8
        have hR8 := hR3.up hU9
        have hQ8 := hQ3.up hU9
        have hK8 := hKr.up hU9
        have hJ9 := hJr.up hU9
        have hU10 := Up.then_ hU4 hU9
        have hyr8 := hR8.two
        have hf80 := hR8.frozen 0
        have hf81 := hR8.frozen 1
        have hyq8 := hQ8.two
        have hq80 := hQ8.frozen 0
        have hq81 := hQ8.frozen 1
        refine wpAnyH_take (i := 9) (v := ?_) rfl (by kernel_rfl) (by kernel_rfl) (by kernel_rfl) (fun _ _ _ h => h) (Or.inl ⟨by rfl, ?_⟩) (by assumption) ?_
        rotate_left
        · (intro w' hSw; go_simp; try with_reducible rfl)
        (try simp only [List.getElem_toArray]); (try simp only [List.getElem_cons_succ]); (try simp only [List.getElem_cons_zero]); (try simp only [Act.put]); (try simp only [List.setIfInBounds_toArray]); (try simp only [List.set_cons_succ]); (try simp only [List.set_cons_zero])
        refine wpAnyH_ready (rs := [10]) (by kernel_rfl) (by simp) ?_
        refine AllReadyH.cons rfl (fun K hK => ?_) AllReadyH.nil
        go_simp
        refine hK.out _ _ (by exact (((ht3.up hU9).far (p := ⟨gr, 0, none⟩) h5 _).far (p := ⟨gr, 1, none⟩) h5 _).two) (fun hHelds1 => ?_)
        clear hK K
        (try simp only [List.getElem_toArray]); (try simp only [List.getElem_cons_succ]); (try simp only [List.getElem_cons_zero]); (try simp only [Act.put]); (try simp only [List.setIfInBounds_toArray]); (try simp only [List.set_cons_succ]); (try simp only [List.set_cons_zero])
        refine wpAnyH_ready (rs := [11]) (by kernel_rfl) (by simp) ?_
        refine AllReadyH.cons rfl (fun K hK => ?_) AllReadyH.nil
        go_simp
        refine hK.out _ _ (by exact (((((ht3.up hU9).far (p := ⟨gr, 0, none⟩) h5 _).far (p := ⟨gr, 1, none⟩) h5 _).far (p := ⟨gq, 0, none⟩) h7 _).far (p := ⟨gq, 1, none⟩) h7 _).two) (fun hHelds2 => ?_)
        clear hK K
        (try simp only [List.getElem_toArray]); (try simp only [List.getElem_cons_succ]); (try simp only [List.getElem_cons_zero]); (try simp only [Act.put]); (try simp only [List.setIfInBounds_toArray]); (try simp only [List.set_cons_succ]); (try simp only [List.set_cons_zero])
        refine wpAnyH_done (by kernel_rfl) ?_ _
        obtain ⟨r1, r2, f1, f2⟩ := fin3 (base := w1.heap.size) (.slice K k kc) (.slice J j jc) (.slice A7 k c7) (.slice A8 j c8) hR8 hQ8 hne hU10 hgr' hgq' (by omega) (by omega)
        replace r1 := r1.two
        replace r2 := r2.two
        have g1 := f2 _ _ _ hK8
        have g2 := f2 _ _ _ hJ9
        have g3 := f2 _ _ _ (hK7.more (base' := w1.heap.size) (by omega))
        have g4 := f2 _ _ _ (hJ8.more (base' := w1.heap.size) (by omega))
        clear f2 hR8 hQ8 hU10 hK8 hJ9
        go_wp2
        generalize (((w8.setCell ⟨gr, 0, none⟩ (.slice K k kc)).setCell ⟨gr, 1, none⟩ (.slice J j jc)).setCell ⟨gq, 0, none⟩ (.slice A7 k c7)).setCell ⟨gq, 1, none⟩ (.slice A8 j c8) = Wf at f1 g1 g2 g3 g4 r1 r2 ⊢
        refine bodyPost_ret (v := .tuple #[.agg #[.slice K k kc, .slice J j jc], .agg #[.slice A7 k c7, .slice A8 j c8]]) ?_ rfl ?_
        · simp [results, Tryz.results46, go_sem, r1, r2]
        exact ⟨K, k, kc, J, j, jc, L, R, A7, k, c7, A8, j, c8, L, R, rfl, g1, g2, g3, g4, hk, hj, hk, hj, f1⟩
    · go_simp
      refine hK.out _ _ (by exact (ht3.up (by first | (go_grown; done) | exact Below.drew (by go_grown))).two) (fun hHelda5 => ?_)
      clear hK K
      (try simp only [List.getElem_toArray]); (try simp only [List.getElem_cons_succ]); (try simp only [List.getElem_cons_zero]); (try simp only [Act.put]); (try simp only [List.setIfInBounds_toArray]); (try simp only [List.set_cons_succ]); (try simp only [List.set_cons_zero])
      refine wpAnyH_ready (rs := [1]) (by kernel_rfl) (by simp) ?_
      refine AllReadyH.cons rfl (fun K hK => ?_) AllReadyH.nil
      go_simp
      refine hK.out _ _ (by exact (ht3.up (by first | (go_grown; done) | exact Below.drew (by go_grown))).two) (fun hHelda1 => ?_)
      clear hK K
      (try simp only [List.getElem_toArray]); (try simp only [List.getElem_cons_succ]); (try simp only [List.getElem_cons_zero]); (try simp only [Act.put]); (try simp only [List.setIfInBounds_toArray]); (try simp only [List.set_cons_succ]); (try simp only [List.set_cons_zero])
      refine wpAnyH_ready (rs := [4]) (by kernel_rfl) (by simp) ?_
      refine AllReadyH.cons rfl (fun K hK => ?_) AllReadyH.nil
      refine step_copy rfl (.tmp 19) (.tmp 21) rfl rfl rfl (hKr.up (by first | (go_grown; done) | exact Below.drew (by go_grown))).1 (by omega) ?_
      intro A7 c7 w7 hK7 hb7
      have hU7 : Up w4 w7 := Up.then_ (by first | (go_grown; done) | exact Below.drew (by go_grown)) hb7
      replace hK7 := hK7.more (base' := w4.heap.size) (by simp <;> omega)
      refine hK.out _ _ (by exact (ht3.up hU7).two) (fun hHeldp7 => ?_)
      clear hK K
      (try simp only [List.getElem_toArray]); (try simp only [List.getElem_cons_succ]); (try simp only [List.getElem_cons_zero]); (try simp only [Act.put]); (try simp only [List.setIfInBounds_toArray]); (try simp only [List.set_cons_succ]); (try simp only [List.set_cons_zero])
      refine wpAnyH_ready (rs := [8]) (by kernel_rfl) (by simp) ?_
      refine AllReadyH.cons rfl (fun K hK => ?_) AllReadyH.nil
      refine step_copy rfl (.tmp 23) (.tmp 25) rfl rfl rfl (hJr.up hU7).1 (by omega) ?_
      intro A8 c8 w8 hJ8 hb8
      have hU8 : Up w7 w8 := hb8
      have hU9 : Up w4 w8 := Up.then_ hU7 hU8
      replace hJ8 := hJ8.more (base' := w4.heap.size) hU7.size
      refine hK.out _ _ (by exact (ht3.up hU9).two) (fun hHeldp8 => ?_)
      clear hK K
      (try simp only [List.getElem_toArray]); (try simp only [List.getElem_cons_succ]); (try simp only [List.getElem_cons_zero]); (try simp only [Act.put]); (try simp only [List.setIfInBounds_toArray]); (try simp only [List.set_cons_succ]); (try simp only [List.set_cons_zero])
      replace hK7 := hK7.up hU8
      have hR8 := hR3.up hU9
      have hQ8 := hQ3.up hU9
      have hK8 := hKr.up hU9
      have hJ9 := hJr.up hU9
      have hU10 := Up.then_ hU4 hU9
      have hyr8 := hR8.two
      have hf80 := hR8.frozen 0
      have hf81 := hR8.frozen 1
      have hyq8 := hQ8.two
      have hq80 := hQ8.frozen 0
      have hq81 := hQ8.frozen 1
      refine wpAnyH_take (i := 9) (v := ?_) rfl (by kernel_rfl) (by kernel_rfl) (by kernel_rfl) (fun _ _ _ h => h) (Or.inl ⟨by rfl, ?_⟩) (by assumption) ?_
      rotate_left
      · (intro w' hSw; go_simp; try with_reducible rfl)
      (try simp only [List.getElem_toArray]); (try simp only [List.getElem_cons_succ]); (try simp only [List.getElem_cons_zero]); (try simp only [Act.put]); (try simp only [List.setIfInBounds_toArray]); (try simp only [List.set_cons_succ]); (try simp only [List.set_cons_zero])
      refine wpAnyH_ready (rs := [10]) (by kernel_rfl) (by simp) ?_
      refine AllReadyH.cons rfl (fun K hK => ?_) AllReadyH.nil
      go_simp
      refine hK.out _ _ (by exact (((ht3.up hU9).far (p := ⟨gr, 0, none⟩) h5 _).far (p := ⟨gr, 1, none⟩) h5 _).two) (fun hHelds1 => ?_)
      clear hK K
      (try simp only [List.getElem_toArray]); (try simp only [List.getElem_cons_succ]); (try simp only [List.getElem_cons_zero]); (try simp only [Act.put]); (try simp only [List.setIfInBounds_toArray]); (try simp only [List.set_cons_succ]); (try simp only [List.set_cons_zero])
      refine wpAnyH_ready (rs := [11]) (by kernel_rfl) (by simp) ?_
      refine AllReadyH.cons rfl (fun K hK => ?_) AllReadyH.nil
      go_simp
      refine hK.out _ _ (by exact (((((ht3.up hU9).far (p := ⟨gr, 0, none⟩) h5 _).far (p := ⟨gr, 1, none⟩) h5 _).far (p := ⟨gq, 0, none⟩) h7 _).far (p := ⟨gq, 1, none⟩) h7 _).two) (fun hHelds2 => ?_)
      clear hK K
      (try simp only [List.getElem_toArray]); (try simp only [List.getElem_cons_succ]); (try simp only [List.getElem_cons_zero]); (try simp only [Act.put]); (try simp only [List.setIfInBounds_toArray]); (try simp only [List.set_cons_succ]); (try simp only [List.set_cons_zero])
      refine wpAnyH_done (by kernel_rfl) ?_ _
      obtain ⟨r1, r2, f1, f2⟩ := fin3 (base := w1.heap.size) (.slice K k kc) (.slice J j jc) (.slice A7 k c7) (.slice A8 j c8) hR8 hQ8 hne hU10 hgr' hgq' (by omega) (by omega)
      replace r1 := r1.two
      replace r2 := r2.two
      have g1 := f2 _ _ _ hK8
      have g2 := f2 _ _ _ hJ9
      have g3 := f2 _ _ _ (hK7.more (base' := w1.heap.size) (by omega))
      have g4 := f2 _ _ _ (hJ8.more (base' := w1.heap.size) (by omega))
      clear f2 hR8 hQ8 hU10 hK8 hJ9
      go_wp2
      generalize (((w8.setCell ⟨gr, 0, none⟩ (.slice K k kc)).setCell ⟨gr, 1, none⟩ (.slice J j jc)).setCell ⟨gq, 0, none⟩ (.slice A7 k c7)).setCell ⟨gq, 1, none⟩ (.slice A8 j c8) = Wf at f1 g1 g2 g3 g4 r1 r2 ⊢
      refine bodyPost_ret (v := .tuple #[.agg #[.slice K k kc, .slice J j jc], .agg #[.slice A7 k c7, .slice A8 j c8]]) ?_ rfl ?_
      · simp [results, Tryz.results46, go_sem, r1, r2]
      exact ⟨K, k, kc, J, j, jc, L, R, A7, k, c7, A8, j, c8, L, R, rfl, g1, g2, g3, g4, hk, hj, hk, hj, f1⟩
end Go.Proofs.YthncdjcmlpiebaaGreatDoor
