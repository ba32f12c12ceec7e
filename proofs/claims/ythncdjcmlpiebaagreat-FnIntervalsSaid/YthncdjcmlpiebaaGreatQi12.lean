/- Walks of chapter 9: the graph of intervals. Draws: graphs that may be interval graphs. Chordal graphs of at most six vertices, one vertex more at a time: each has an order of intervals or a triple; an umbrella order, a claw or a triple. No program in sight. The run over all chordal graphs of at most six vertices, given by an elimination order. Chapter 10, plain: orders of cliques. No program in sight. -/
import Derived.Test.YthncdjcmlpiebaaGreatQi01
import Derived.Test.YthncdjcmlpiebaaGreatQi02
import Derived.Test.YthncdjcmlpiebaaGreatQi05
import Derived.Test.YthncdjcmlpiebaaGreatQi09
import Derived.Test.YthncdjcmlpiebaaGreatQi10
import Derived.Test.YthncdjcmlpiebaaGreatQi11
namespace Go.Proofs.YthncdjcmlpiebaaGreat
open Go.RowKit
set_option maxRecDepth 100000 in
theorem GivesGB.out {N : Int} {n : Nat} {Q : List Nat} {b : Bool} {w : World} {e : Ending} {w' : World} (h : GivesGB N (ints Q) b w e w') (hl : Q.length = n) (h0 : 0 < n) :
    ∃ g d, e = .returned (.tuple #[.agg #[.int .i64 N, .slice (some ⟨g, 0, none⟩) n d], .bool b]) ∧ OwnI w' w.heap.size (some ⟨g, 0, none⟩) n d (ints Q) ∧ Below w.heap.size w w' := by
  obtain ⟨B, d, rfl, hown, hb⟩ := h
  have e : (ints Q).length = n := by rw [ints_len, hl]
  rw [e] at hown ⊢
  obtain ⟨g, rfl⟩ := hown.form h0
  exact ⟨g, d, rfl, hown, hb⟩
set_option maxRecDepth 100000 in
theorem i64_xor7 {a b : Nat} (ha : a < 129) (hb : b < 129) : bits .xor .i64 (a : Int) (b : Int) = ((a ^^^ b : Nat) : Int) := i64_xor_nat a b (by omega) (by omega)
set_option maxRecDepth 100000 in
set_option maxHeartbeats 1000000 in
theorem flip_ok (g n d v x base : Nat) (Q : List Nat) (w : World) (hown : OwnI w base (some ⟨g, 0, none⟩) n d (ints Q)) (h : GOk n Q) (hv : v < n) (hx : x < n) (hne : v ≠ x) (hbit : (nb Q v).testBit x = false) :
    Calls Tryz.prog 159 #[.agg #[.int .i64 n, .slice (some ⟨g, 0, none⟩) n d], .int .i64 v, .int .i64 x] w fun e w' => e = .returned (.tuple #[]) ∧ OwnI w' base (some ⟨g, 0, none⟩) n d (ints (addE Q v x)) ∧ w.grownBy w' (some g) := by
  have hn7 := h.le
  have hl := h.len
  have hs1 := xor_bit hbit
  have hs2 := xor_bit (show (nb Q x).testBit v = false by rw [← h.sym]; exact hbit)
  have hv7 := h.nb7 v
  have hx7 := h.nb7 x
  have hpx := p2_le (k := x) (by omega)
  have hpv := p2_le (k := v) (by omega)
  have hv1 : IntKind.i64.wrap ((2 : Int) ^ x) = ((p2 x : Nat) : Int) := by rw [IntWalk.i64_left]; exact shl_p2 (by omega)
  have hv2 : IntKind.i64.wrap ((2 : Int) ^ v) = ((p2 v : Nat) : Int) := by rw [IntWalk.i64_left]; exact shl_p2 (by omega)
  have hq1 : bits .xor .i64 ((nb Q v : Nat) : Int) ((p2 x : Nat) : Int) = ((nb Q v ||| 2 ^ x : Nat) : Int) := by rw [i64_xor7 (by omega) (by omega), ← hs1]; rfl
  have hq2 : bits .xor .i64 ((nb Q x : Nat) : Int) ((p2 v : Nat) : Int) = ((nb Q x ||| 2 ^ v : Nat) : Int) := by rw [i64_xor7 (by omega) (by omega), ← hs2]; rfl
  have hb0 := Blk.new w 26 #[.int .i64 n, .slice (some ⟨g, 0, none⟩) n d]
  have hgl : g < w.heap.size := (hown.block g rfl).2
  replace hown := hown.alloc (.cells #[.int .i64 n, .slice (some ⟨g, 0, none⟩) n d] 26)
  have hcv := hown.nat hv
  have hfv := hown.frz v
  have hyb := hb0.two
  clear hs1 hs2
  go_enter Tryz.func159, Tryz.ntmps159
  go_wp2_with fail
  obtain ⟨W0, hW0⟩ : ∃ W0, W0 = w.alloc (.cells #[.int .i64 n, .slice (some ⟨g, 0, none⟩) n d] 26) := ⟨_, rfl⟩
  have hgr0 : w.grownBy W0 (some g) := by rw [hW0]; exact World.grownBy_alloc _ _ _
  rw [← hW0] at hb0 hown hcv hfv hyb
  rw [← hW0]
  clear hW0
  go_still_tail 9, (by kernel_rfl)
  change wpList _ _ _ _ _ W0.drew
  have hcv2 : W0.drew.cell? ⟨g, v, none⟩ = some (.int .i64 (nb Q v)) := hcv
  have hfv2 : W0.drew.frozen? ⟨g, v, none⟩ = false := hfv
  go_wp2
  obtain ⟨w4, hw4⟩ : ∃ w4, w4 = (W0.setCell ⟨g, v, none⟩ (.int .i64 ((nb Q v ||| 2 ^ x : Nat) : Int))).drew := ⟨_, rfl⟩
  obtain ⟨Q1, hQ1⟩ : ∃ Q1, Q1 = Q.set v (nb Q v ||| 2 ^ x) := ⟨_, rfl⟩
  have hown4 : OwnI w4 base (some ⟨g, 0, none⟩) n d (ints Q1) := by rw [hw4, hQ1]; exact (hown.putNat v (nb Q v ||| 2 ^ x)).drew
  have hb4 : Blk w4 w.heap.size 26 #[.int .i64 n, .slice (some ⟨g, 0, none⟩) n d] := by rw [hw4]; exact (hb0.far (fun e => own_blk_ne (e := 3) hown hb0 (by decide) (by simp [Value.ownBlock, e])) _).drew
  have hgr4 : w.grownBy w4 (some g) := by rw [hw4]; exact grown_drew (hgr0.trans (grown_setCell W0 ⟨g, v, none⟩ _))
  rw [← hw4]
  clear hw4 hyb hcv hfv hcv2 hfv2
  have hyb := hb4.two
  have hcx := hown4.nat hx
  have hfx := hown4.frz x
  have hQx : nb Q1 x = nb Q x := by rw [hQ1, nb_set' (by omega), if_neg (fun e => hne e.symm)]
  have hQ2 : Q1.set x (nb Q x ||| 2 ^ v) = addE Q v x := by rw [hQ1, addE]
  rw [hQx] at hcx
  clear hQx hQ1
  have hof := (hown4.putNat x (nb Q x ||| 2 ^ v)).drew
  rw [hQ2] at hof
  have hgf := grown_drew (hgr4.trans (grown_setCell w4 ⟨g, x, none⟩ (.int .i64 ((nb Q x ||| 2 ^ v : Nat) : Int))))
  go_wp2_with fail
  go_still_tail 9, (by kernel_rfl)
  change wpList _ _ _ _ _ w4.drew
  have hcx2 : w4.drew.cell? ⟨g, x, none⟩ = some (.int .i64 (nb Q x)) := hcx
  have hfx2 : w4.drew.frozen? ⟨g, x, none⟩ = false := hfx
  go_wp2
  go_end0
  exact ⟨rfl, hof, hgf⟩
set_option maxRecDepth 100000 in
set_option maxHeartbeats 1000000 in
theorem joined_ok (A B : Option Addr) (n m ca cb bx i j : Nat) (L R : List Int) (w : World) (hL : RI w A n L) (hR : RI w B m R) (hbx : Blk w bx 31 #[.slice A n ca, .slice B m cb]) (hi : i < n) (hj : j < n) (hnm : n = m) :
    Calls Tryz.prog 135 #[.int .i64 j, .int .i64 i, .pointer (some ⟨bx, 0, none⟩)] w fun e w' => e = .returned (.bool (meets L R i j)) ∧ ∃ k, w' = w.drewN k := by
  subst hnm
  obtain ⟨a, rfl, _, hcl⟩ := hL.addr (show 0 < n by omega)
  obtain ⟨b, rfl, _, hcr⟩ := hR.addr (show 0 < n by omega)
  have h1 := hcl i hi
  have h2 := hcl j hj
  have h3 := hcr i hi
  have h4 := hcr j hj
  have hyb := hbx.two
  clear hcl hcr
  by_cases e1 : L.getD j 0 ≤ R.getD i 0
  · have d1 : decide (L[j]?.getD 0 ≤ R[i]?.getD 0) = true := by simpa using e1
    have HM := Lib.hid (show meets L R i j = decide (L[i]?.getD 0 ≤ R[j]?.getD 0) by rw [meets, decide_eq_true e1, Bool.and_true]; rfl)
    clear e1
    go_enter Tryz.func135, Tryz.ntmps135
    go_wp2_with fail
    go_quiet (fail)
    go_wp2
    go_ret
    exact ⟨ret_bool HM.out.symm, _, rfl⟩
  · have d1 : decide (L[j]?.getD 0 ≤ R[i]?.getD 0) = false := by simpa using e1
    have HM := Lib.hid (show meets L R i j = false by rw [meets, decide_eq_false e1, Bool.and_false])
    clear e1
    go_enter Tryz.func135, Tryz.ntmps135
    go_wp2_with fail
    go_quiet (fail)
    go_wp2
    go_ret
    exact ⟨ret_bool HM.out.symm, _, rfl⟩
set_option maxRecDepth 100000 in
set_option maxHeartbeats 2000000 in
theorem graphOf_ok (A B : Option Addr) (n ca cb bx : Nat) (L R : List Int) (w : World) (hL : RI w A n L) (hR : RI w B n R) (hbx : Blk w bx 31 #[.slice A n ca, .slice B n cb]) (h1 : 1 ≤ n) (h7 : n ≤ 7) :
    Calls Tryz.prog 134 #[.int .i64 n, .func (.func 135) #[] #[.pointer (some ⟨bx, 0, none⟩)]] w fun e w' => ∃ g d, e = .returned (.agg #[.int .i64 n, .slice (some ⟨g, 0, none⟩) n d]) ∧ OwnI w' w.heap.size (some ⟨g, 0, none⟩) n d (ints (graphJ (meets L R) n n)) ∧ Below w.heap.size w w' := by
  have hmk := make_ints n (by omega)
  have hlx := hbx.lt
  have hgn := ((Blk.new_at (w := w.alloc (.cells #[.int .i64 0, .slice none 0 0] 26)) (t := 3) (cs := natCells (List.replicate n 0)) (g := w.heap.size + 1) (by simp)).alloc (.cells #[.int .i64 n, .slice (some ⟨w.heap.size + 1, 0, none⟩) n n] 26)).own (base := w.heap.size) (n := n) (by omega) (by rw [natCells_size]; simp) (by unfold maxLen; omega)
  have hb4 := ((Blk.new w 26 #[.int .i64 0, .slice none 0 0]).alloc (.cells (natCells (List.replicate n 0)) 3)).alloc (.cells #[.int .i64 n, .slice (some ⟨w.heap.size + 1, 0, none⟩) n n] 26)
  have hb5 := Blk.new_at (w := (w.alloc (.cells #[.int .i64 0, .slice none 0 0] 26)).alloc (.cells (natCells (List.replicate n 0)) 3)) (t := 26) (cs := #[.int .i64 n, .slice (some ⟨w.heap.size + 1, 0, none⟩) n n]) (g := w.heap.size + 2) (by simp)
  have hbel : Below w.heap.size w (((w.alloc (.cells #[.int .i64 0, .slice none 0 0] 26)).alloc (.cells (natCells (List.replicate n 0)) 3)).alloc (.cells #[.int .i64 n, .slice (some ⟨w.heap.size + 1, 0, none⟩) n n] 26)) := by go_grown
  rw [natCells_zero] at hgn hb4 hb5 hbel
  have hown0 : OwnI (((w.alloc (.cells #[.int .i64 0, .slice none 0 0] 26)).alloc (.cells (zeros n) 3)).alloc (.cells #[.int .i64 n, .slice (some ⟨w.heap.size + 1, 0, none⟩) n n] 26)) w.heap.size (some ⟨w.heap.size + 1, 0, none⟩) n n (ints (graphJ (meets L R) n 0)) := by
    have e : (zeros n).toList = (ints (graphJ (meets L R) n 0)).map (Value.int .i64) := by rw [← natCells_zero]; simp [natCells, graphJ]
    rw [e] at hgn
    exact hgn
  clear hgn
  go_enter Tryz.func134, Tryz.ntmps134
  go_wp2_with fail
  clear hmk
  go_loopw [13] (fun i wr => ∃ k : Nat, k ≤ n ∧ i = .int .i64 k ∧ OwnI wr w.heap.size (some ⟨w.heap.size + 1, 0, none⟩) n n (ints (graphJ (meets L R) n k)) ∧ Blk wr w.heap.size 26 #[.int .i64 0, .slice none 0 0] ∧ Blk wr (w.heap.size + 2) 26 #[.int .i64 n, .slice (some ⟨w.heap.size + 1, 0, none⟩) n n] ∧ Below w.heap.size w wr) (fun i _ => n - (intOf i).toNat)
  case atStart => exact ⟨0, Nat.zero_le _, rfl, hown0, hb4, hb5, hbel⟩
  case round =>
    clear hown0 hb4 hb5 hbel
    obtain ⟨k, hk, rfl, hown, hb4, hb5, hb⟩ := hrel
    obtain ⟨wo, rfl⟩ : ∃ wo : World, wo = wr := ⟨_, rfl⟩
    by_cases hlt : k < n
    · have HG := Lib.hid (graphJ_ok (J := meets L R) h1 h7 k (by omega))
      have HN := Lib.hid (show graphJ (meets L R) n (k + 1) = pairsJ (meets L R) (graphJ (meets L R) n k) k k from rfl)
      obtain ⟨Q0, hQ0⟩ : ∃ Q0, Q0 = graphJ (meets L R) n k := ⟨_, rfl⟩
      rw [← hQ0] at hown HG HN
      clear hQ0
      have hp0 : pairsJ (meets L R) Q0 k 0 = Q0 := rfl
      rw [← hp0] at hown
      clear hp0
      go_wp2_with fail
      go_loopw [17] (fun i wr => ∃ j : Nat, j ≤ k ∧ i = .int .i64 j ∧ OwnI wr w.heap.size (some ⟨w.heap.size + 1, 0, none⟩) n n (ints (pairsJ (meets L R) Q0 k j)) ∧ Blk wr w.heap.size 26 #[.int .i64 0, .slice none 0 0] ∧ Blk wr (w.heap.size + 2) 26 #[.int .i64 n, .slice (some ⟨w.heap.size + 1, 0, none⟩) n n] ∧ Below w.heap.size w wr) (fun i _ => k - (intOf i).toNat)
      case atStart => exact ⟨0, Nat.zero_le _, rfl, hown, hb4, hb5, hb⟩
      case round =>
        clear hown hb4 hb5 hb
        obtain ⟨j, hj, rfl, hown, hb4, hb5, hb⟩ := hrel
        obtain ⟨wi, rfl⟩ : ∃ wi : World, wi = wr := ⟨_, rfl⟩
        by_cases hjt : j < k
        · have HP := Lib.hid (pairsJ_ok (J := meets L R) HG.out hlt j hj)
          rcases Bool.eq_false_or_eq_true (meets L R k j) with e1 | e1
          · have HY := Lib.hid (pairsJ_yes (Q := Q0) e1)
            have HE := Lib.hid e1
            clear e1
            obtain ⟨Q1, hQ1⟩ : ∃ Q1, Q1 = pairsJ (meets L R) Q0 k j := ⟨_, rfl⟩
            rw [← hQ1] at hown HP HY
            clear hQ1
            go_wp2_with fail
            refine (joined_ok A B n n ca cb bx k j L R _ (hL.up hb) (hR.up hb) (hbx.up hb) hlt (by omega) rfl).mono ?_
            rintro e w2 ⟨rfl, q, hq⟩
            rw [HE.out]
            have hown2 : OwnI w2 w.heap.size (some ⟨w.heap.size + 1, 0, none⟩) n n (ints Q1) := by rw [hq]; exact hown.drewN q
            have hb42 : Blk w2 w.heap.size 26 #[.int .i64 0, .slice none 0 0] := by rw [hq]; exact hb4.drewN q
            have hb52 : Blk w2 (w.heap.size + 2) 26 #[.int .i64 n, .slice (some ⟨w.heap.size + 1, 0, none⟩) n n] := by rw [hq]; exact hb5.drewN q
            have hbb : Below w.heap.size w w2 := by rw [hq]; exact below_drewN hb q
            clear hq
            have hyb := hb52.two
            have hll := hb52.lt
            go_wp2_with fail
            refine (flip_ok (w.heap.size + 1) n n j k w.heap.size Q1 _ hown2 HP.out.1 (by omega) hlt (by omega) (upToPair_bit HP.out hjt).2).mono ?_
            rintro e w3 ⟨rfl, hown3, hg3⟩
            rw [addE_swap (by omega), ← HY.out] at hown3
            have hb43 := hb42.grown hg3 (by simp)
            have hb53 := hb52.grown hg3 (by simp)
            have hb3 := hbb.grown hg3 (by omega) (fun k hk => by simp at hk; omega)
            go_wp2
            go_roundw
            case rel => exact ⟨j + 1, by omega, by go_num, hown3, hb43, hb53, hb3⟩
            case measure => simp [intOf]; omega
          · have HY := Lib.hid (pairsJ_no (Q := Q0) e1)
            have HE := Lib.hid e1
            clear e1
            go_wp2_with fail
            refine (joined_ok A B n n ca cb bx k j L R _ (hL.up hb) (hR.up hb) (hbx.up hb) hlt (by omega) rfl).mono ?_
            rintro e w2 ⟨rfl, q, hq⟩
            rw [HE.out]
            have hown2 : OwnI w2 w.heap.size (some ⟨w.heap.size + 1, 0, none⟩) n n (ints (pairsJ (meets L R) Q0 k j)) := by rw [hq]; exact hown.drewN q
            have hb42 : Blk w2 w.heap.size 26 #[.int .i64 0, .slice none 0 0] := by rw [hq]; exact hb4.drewN q
            have hb52 : Blk w2 (w.heap.size + 2) 26 #[.int .i64 n, .slice (some ⟨w.heap.size + 1, 0, none⟩) n n] := by rw [hq]; exact hb5.drewN q
            have hbb : Below w.heap.size w w2 := by rw [hq]; exact below_drewN hb q
            clear hq
            go_wp2
            go_roundw
            case rel => exact ⟨j + 1, by omega, by go_num, by rw [HY.out]; exact hown2, hb42, hb52, hbb⟩
            case measure => simp [intOf]; omega
        · obtain rfl : j = k := by omega
          go_wp2
          go_roundw
          case rel => exact ⟨j + 1, by omega, by go_num, by rw [HN.out]; exact hown, hb4, hb5, hb⟩
          case measure => simp [intOf]; omega
    · obtain rfl : k = n := by omega
      have hyb := hb5.two
      have f0 := hb4.frozen 0
      have f1 := hb4.frozen 1
      have hy4 := hb4.two
      have hfin := ((hb4.set_ 0 (.int .i64 k)).set_ 1 (.slice (some ⟨w.heap.size + 1, 0, none⟩) k k)).two
      have hof := (hown.other_store (i := 0) hb4 (by decide) (.int .i64 k)).other_store (i := 1) (hb4.set_ 0 (.int .i64 k)) (by decide) (.slice (some ⟨w.heap.size + 1, 0, none⟩) k k)
      have hbf := (hb.setCell (p := ⟨w.heap.size, 0, none⟩) (Nat.le_refl _) (.int .i64 k)).setCell (p := ⟨w.heap.size, 1, none⟩) (Nat.le_refl _) (.slice (some ⟨w.heap.size + 1, 0, none⟩) k k)
      go_wp2
      generalize (wo.setCell ⟨w.heap.size, 0, none⟩ (.int .i64 k)).setCell ⟨w.heap.size, 1, none⟩ (.slice (some ⟨w.heap.size + 1, 0, none⟩) k k) = Wf at hfin hof hbf ⊢
      refine bodyPost_ret (v := .agg #[.int .i64 k, .slice (some ⟨w.heap.size + 1, 0, none⟩) k k]) ?_ rfl ?_
      · simp [results, Tryz.results134, go_sem, hfin]
      exact ⟨_, _, rfl, hof, hbf⟩
set_option maxRecDepth 100000 in
set_option maxHeartbeats 2000000 in
theorem implGraphOfIntervals_any (A B : Option Addr) (n m ca cb : Nat) (L R : List Int) (w : World) (hL : RI w A n L) (hR : RI w B m R) (hn : n ≤ 1048576) (hm : m ≤ 1048576) :
    Calls Tryz.prog 76 #[.agg #[.slice A n ca, .slice B m cb]] w (GivesGB (goiNum L R) (goiRows L R) (isModel L R) w) := by
  have HL := Lib.hid hL.1
  have HR2 := Lib.hid hR.1
  rcases Bool.eq_false_or_eq_true (isModel L R) with hg | hg
  rotate_left
  · have Hg := Lib.hid hg
    have HR := Lib.hid (goi_no hg)
    clear hg
    rw [HR.out.1, HR.out.2]
    go_enter Tryz.func76, Tryz.ntmps76
    go_wp2_with fail
    refine (implIsModel_any A B n m ca cb L R _ (hL.up (by go_grown)) (hR.up (by go_grown)) hn hm).mono ?_
    rintro e w1 ⟨rfl, hb1⟩
    have hU1 : Up w w1 := Up.then_ (by go_grown) hb1
    have hbr := (Blk.new_at (w := w.alloc (.cells #[.slice A n ca, .slice B m cb] 31)) (t := 26) (cs := #[.int .i64 0, .slice none 0 0]) (g := w.heap.size + 1) (by simp)).up hb1
    have f0 := hbr.frozen 0
    have f1 := hbr.frozen 1
    have hyb := hbr.two
    have hfin := ((hbr.set_ 0 (.int .i64 0)).set_ 1 (.slice none 0 0)).two
    have hbf := (hU1.setCell (p := ⟨w.heap.size + 1, 0, none⟩) (by simp) (.int .i64 0)).setCell (p := ⟨w.heap.size + 1, 1, none⟩) (by simp) (.slice none 0 0)
    rw [Hg.out]
    go_wp2
    generalize (w1.setCell ⟨w.heap.size + 1, 0, none⟩ (.int .i64 0)).setCell ⟨w.heap.size + 1, 1, none⟩ (.slice none 0 0) = Wf at hfin hbf ⊢
    refine bodyPost_ret (v := .tuple #[.agg #[.int .i64 0, .slice none 0 0], .bool false]) ?_ rfl ?_
    · simp [results, Tryz.results76, go_sem, hfin]
    exact ⟨none, 0, by rw [Hg.out]; rfl, OwnI.nil_ _ _, hbf⟩
  · have sp := isModel_spec hg
    have Hg := Lib.hid hg
    have HR := Lib.hid (goi_ok hg)
    have h1 : 1 ≤ n := by have := HL.out; omega
    have h7 : n ≤ 7 := by have := HL.out; omega
    obtain rfl : n = m := by have := HL.out; have := HR2.out; omega
    have Hn := Lib.hid (show L.length = n from HL.out)
    clear hg sp
    rw [HR.out.1, HR.out.2]
    go_enter Tryz.func76, Tryz.ntmps76
    go_wp2_with fail
    refine (implIsModel_any A B n n ca cb L R _ (hL.up (by go_grown)) (hR.up (by go_grown)) hn hm).mono ?_
    rintro e w1 ⟨rfl, hb1⟩
    have hU1 : Up w w1 := Up.then_ (by go_grown) hb1
    replace hL := hL.up hU1
    replace hR := hR.up hU1
    have hbx := ((Blk.new w 31 #[.slice A n ca, .slice B n cb]).alloc (.cells #[.int .i64 0, .slice none 0 0] 26)).up hb1
    have hbr := (Blk.new_at (w := w.alloc (.cells #[.slice A n ca, .slice B n cb] 31)) (t := 26) (cs := #[.int .i64 0, .slice none 0 0]) (g := w.heap.size + 1) (by simp)).up hb1
    have yhbx := hbx.two
    have lhbx := hbx.lt
    have yhbr := hbr.two
    have lhbr := hbr.lt
    rw [Hg.out]
    go_wp2_with fail
    refine (graphOf_ok A B n ca cb w.heap.size L R _ hL hR hbx h1 h7).mono ?_
    rintro e w2 ⟨g, d, rfl, hown, hb2⟩
    have hU2 : Up w1 w2 := Up.then_ (by go_grown) hb2
    replace hL := hL.up hU2
    replace hR := hR.up hU2
    replace hbx := hbx.up hU2
    replace hbr := hbr.up hU2
    replace yhbx := hbx.two
    replace lhbx := hbx.lt
    replace yhbr := hbr.two
    replace lhbr := hbr.lt
    have f0 := hbr.frozen 0
    have f1 := hbr.frozen 1
    have hw2 := Up.then_ hU1 hU2
    have hfin := ((hbr.set_ 0 (.int .i64 n)).set_ 1 (.slice (some ⟨g, 0, none⟩) n d)).two
    have hof := (hown.other_store (i := 0) hbr (by decide) (.int .i64 n)).other_store (i := 1) (hbr.set_ 0 (.int .i64 n)) (by decide) (.slice (some ⟨g, 0, none⟩) n d)
    have hbf := (hw2.setCell (p := ⟨w.heap.size + 1, 0, none⟩) (by simp) (.int .i64 n)).setCell (p := ⟨w.heap.size + 1, 1, none⟩) (by simp) (.slice (some ⟨g, 0, none⟩) n d)
    go_wp2
    generalize (w2.setCell ⟨w.heap.size + 1, 0, none⟩ (.int .i64 n)).setCell ⟨w.heap.size + 1, 1, none⟩ (.slice (some ⟨g, 0, none⟩) n d) = Wf at hfin hof hbf ⊢
    refine bodyPost_ret (v := .tuple #[.agg #[.int .i64 n, .slice (some ⟨g, 0, none⟩) n d], .bool true]) ?_ rfl ?_
    · simp [results, Tryz.results76, go_sem, hfin]
    have e : graphRows L R = graphJ (meets L R) n n := by rw [graphRows, Hn.out]
    rw [Hg.out, e, Hn.out]
    exact givesGB_of (by rw [(graphJ_ok (J := meets L R) h1 h7 n (Nat.le_refl _)).1.len]) hof hU1.size hbf
set_option maxRecDepth 100000 in
set_option maxHeartbeats 2000000 in
theorem specGraphOfIntervals_any (A B : Option Addr) (n m ca cb : Nat) (L R : List Int) (w : World) (hL : RI w A n L) (hR : RI w B m R) (hn : n ≤ 1048576) (hm : m ≤ 1048576) :
    Calls Tryz.prog 121 #[.agg #[.slice A n ca, .slice B m cb]] w (GivesGB (goiNum L R) (goiRows L R) (isModel L R) w) := by
  have HL := Lib.hid hL.1
  have HR2 := Lib.hid hR.1
  rcases Bool.eq_false_or_eq_true (isModel L R) with hg | hg
  rotate_left
  · have Hg := Lib.hid hg
    have HR := Lib.hid (goi_no hg)
    clear hg
    rw [HR.out.1, HR.out.2]
    go_enter Tryz.func121, Tryz.ntmps121
    go_wp2_with fail
    refine (specIsModel_any A B n m ca cb L R _ (hL.up (by go_grown)) (hR.up (by go_grown)) hn hm).mono ?_
    rintro e w1 ⟨rfl, hb1⟩
    have hU1 : Up w w1 := Up.then_ (by go_grown) hb1
    have hbr := (Blk.new_at (w := w.alloc (.cells #[.slice A n ca, .slice B m cb] 31)) (t := 26) (cs := #[.int .i64 0, .slice none 0 0]) (g := w.heap.size + 1) (by simp)).up hb1
    have f0 := hbr.frozen 0
    have f1 := hbr.frozen 1
    have hyb := hbr.two
    have hfin := ((hbr.set_ 0 (.int .i64 0)).set_ 1 (.slice none 0 0)).two
    have hbf := (hU1.setCell (p := ⟨w.heap.size + 1, 0, none⟩) (by simp) (.int .i64 0)).setCell (p := ⟨w.heap.size + 1, 1, none⟩) (by simp) (.slice none 0 0)
    rw [Hg.out]
    go_wp2
    generalize (w1.setCell ⟨w.heap.size + 1, 0, none⟩ (.int .i64 0)).setCell ⟨w.heap.size + 1, 1, none⟩ (.slice none 0 0) = Wf at hfin hbf ⊢
    refine bodyPost_ret (v := .tuple #[.agg #[.int .i64 0, .slice none 0 0], .bool false]) ?_ rfl ?_
    · simp [results, Tryz.results121, go_sem, hfin]
    exact ⟨none, 0, by rw [Hg.out]; rfl, OwnI.nil_ _ _, hbf⟩
  · have sp := isModel_spec hg
    have Hg := Lib.hid hg
    have HR := Lib.hid (goi_ok hg)
    have h1 : 1 ≤ n := by have := HL.out; omega
    have h7 : n ≤ 7 := by have := HL.out; omega
    obtain rfl : n = m := by have := HL.out; have := HR2.out; omega
    have Hn := Lib.hid (show L.length = n from HL.out)
    clear hg sp
    rw [HR.out.1, HR.out.2]
    go_enter Tryz.func121, Tryz.ntmps121
    go_wp2_with fail
    refine (specIsModel_any A B n n ca cb L R _ (hL.up (by go_grown)) (hR.up (by go_grown)) hn hm).mono ?_
    rintro e w1 ⟨rfl, hb1⟩
    have hU1 : Up w w1 := Up.then_ (by go_grown) hb1
    replace hL := hL.up hU1
    replace hR := hR.up hU1
    have hbx := ((Blk.new w 31 #[.slice A n ca, .slice B n cb]).alloc (.cells #[.int .i64 0, .slice none 0 0] 26)).up hb1
    have hbr := (Blk.new_at (w := w.alloc (.cells #[.slice A n ca, .slice B n cb] 31)) (t := 26) (cs := #[.int .i64 0, .slice none 0 0]) (g := w.heap.size + 1) (by simp)).up hb1
    have yhbx := hbx.two
    have lhbx := hbx.lt
    have yhbr := hbr.two
    have lhbr := hbr.lt
    have hX0 : Up w w1 := hU1
    have hmk := make_ints n (by omega)
    rw [Hg.out]
    have hown0 : OwnI ((w1.alloc (.cells (zeros n) 3)).alloc (.cells #[.int .i64 n, .slice (some ⟨w1.heap.size, 0, none⟩) n n] 26)) w1.heap.size (some ⟨w1.heap.size, 0, none⟩) n n (ints (graphJ (meets L R) n 0)) := by
      have hgn := ((Blk.new w1 3 (natCells (List.replicate n 0))).alloc (.cells #[.int .i64 n, .slice (some ⟨w1.heap.size, 0, none⟩) n n] 26)).own (base := w1.heap.size) (n := n) (Nat.le_refl _) (by rw [natCells_size]; simp) (by unfold maxLen; omega)
      rw [natCells_zero] at hgn
      have e : (zeros n).toList = (ints (graphJ (meets L R) n 0)).map (Value.int .i64) := by rw [← natCells_zero]; simp [natCells, graphJ]
      rw [e] at hgn
      exact hgn
    have hb5 := Blk.new_at (w := w1.alloc (.cells (zeros n) 3)) (t := 26) (cs := #[.int .i64 n, .slice (some ⟨w1.heap.size, 0, none⟩) n n]) (g := w1.heap.size + 1) (by simp)
    go_wp2_with fail
    clear hmk
    go_loopw [6] (fun i wr => ∃ (k g d : Nat), k ≤ n ∧ i = .int .i64 k ∧ OwnI wr w1.heap.size (some ⟨g, 0, none⟩) n d (ints (graphJ (meets L R) n k)) ∧ Blk wr (w1.heap.size + 1) 26 #[.int .i64 n, .slice (some ⟨g, 0, none⟩) n d] ∧ Below w1.heap.size w1 wr) (fun i _ => n - (intOf i).toNat)
    case atStart => exact ⟨0, _, _, Nat.zero_le _, rfl, hown0, hb5, by go_grown⟩
    case round =>
      clear hown0 hb5
      obtain ⟨k, g, d, hk, rfl, hown, hb5, hb⟩ := hrel
      obtain ⟨wo, rfl⟩ : ∃ wo : World, wo = wr := ⟨_, rfl⟩
      by_cases hlt : k < n
      · have HG := Lib.hid (graphJ_ok (J := meets L R) h1 h7 k (by omega))
        have HN := Lib.hid (show graphJ (meets L R) n (k + 1) = pairsJ (meets L R) (graphJ (meets L R) n k) k k from rfl)
        obtain ⟨Q0, hQ0⟩ : ∃ Q0, Q0 = graphJ (meets L R) n k := ⟨_, rfl⟩
        rw [← hQ0] at hown HG HN
        clear hQ0
        have hp0 : pairsJ (meets L R) Q0 k 0 = Q0 := rfl
        rw [← hp0] at hown
        clear hp0
        go_wp2_with fail
        go_loopw [7] (fun i wr => ∃ (j g d : Nat), j ≤ k ∧ i = .int .i64 j ∧ OwnI wr w1.heap.size (some ⟨g, 0, none⟩) n d (ints (pairsJ (meets L R) Q0 k j)) ∧ Blk wr (w1.heap.size + 1) 26 #[.int .i64 n, .slice (some ⟨g, 0, none⟩) n d] ∧ Below w1.heap.size w1 wr) (fun i _ => k - (intOf i).toNat)
        case atStart => exact ⟨0, _, _, Nat.zero_le _, rfl, hown, hb5, hb⟩
        case round =>
          clear hown hb5 hb
          obtain ⟨j, g, d, hj, rfl, hown, hb5, hb⟩ := hrel
          obtain ⟨wi, rfl⟩ : ∃ wi : World, wi = wr := ⟨_, rfl⟩
          have yhbx2 := (hbx.up hb).two
          by_cases hjt : j < k
          · have HP := Lib.hid (pairsJ_ok (J := meets L R) HG.out hlt j hj)
            obtain ⟨a, hA, _, hcl⟩ := (hL.up hb).addr (show 0 < n by omega)
            obtain ⟨b, hB, _, hcr⟩ := (hR.up hb).addr (show 0 < n by omega)
            subst hA hB
            have c1 := hcl k hlt
            have c2 := hcl j (by omega)
            have c3 := hcr k hlt
            have c4 := hcr j (by omega)
            clear hcl hcr
            by_cases e1 : L.getD k 0 ≤ R.getD j 0
            · have d1 : decide (L[k]?.getD 0 ≤ R[j]?.getD 0) = true := by simpa using e1
              by_cases e2 : L.getD j 0 ≤ R.getD k 0
              · have d2 : decide (L[j]?.getD 0 ≤ R[k]?.getD 0) = true := by simpa using e2
                have HY := Lib.hid (pairsJ_yes (Q := Q0) (show meets L R k j = true by rw [meets, decide_eq_true e1, decide_eq_true e2]; rfl))
                clear e1 e2
                obtain ⟨Q1, hQ1⟩ : ∃ Q1, Q1 = pairsJ (meets L R) Q0 k j := ⟨_, rfl⟩
                rw [← hQ1] at hown HP HY
                clear hQ1
                go_wp2_with fail
                go_quiet (fail)
                have yhb5 := hb5.two
                go_wp2_with fail
                refine ((addEdge_ok ⟨g, 0, none⟩ n d k j Q1 _ (hown.drewN _).ri HP.out.1 hlt (by omega) (by omega)).mono fun e w' hg => hg.out (by rw [addE_len, HP.out.1.len]) (by omega)).mono ?_
                rintro e w3 ⟨g', d', rfl, hown3, hb3⟩
                have hb53 := (hb5.drewN _).up hb3
                have hw3 := Up.then_ (below_drewN hb _) hb3
                replace hown3 := hown3.more (base' := w1.heap.size) hb.size
                rw [← HY.out] at hown3
                clear yhb5 yhbx2
                have hyb := hb53.two
                have f0 := hb53.frozen 0
                have f1 := hb53.frozen 1
                go_wp2
                go_roundw
                case rel => exact ⟨j + 1, g', d', by omega, by go_num, (hown3.other_store (i := 0) hb53 (by decide) (.int .i64 n)).other_store (i := 1) (hb53.set_ 0 (.int .i64 n)) (by decide) (.slice (some ⟨g', 0, none⟩) n d'), (hb53.set_ 0 (.int .i64 n)).set_ 1 (.slice (some ⟨g', 0, none⟩) n d'), (hw3.setCell (p := ⟨w1.heap.size + 1, 0, none⟩) (by simp) (.int .i64 n)).setCell (p := ⟨w1.heap.size + 1, 1, none⟩) (by simp) (.slice (some ⟨g', 0, none⟩) n d')⟩
                case measure => simp [intOf]; omega
              · have d2 : decide (L[j]?.getD 0 ≤ R[k]?.getD 0) = false := by simpa using e2
                have HY := Lib.hid (pairsJ_no (Q := Q0) (show meets L R k j = false by rw [meets, decide_eq_false e2, Bool.and_false]))
                clear e1 e2
                go_wp2_with fail
                go_quiet (fail)
                go_wp2
                go_roundw
                case rel => exact ⟨j + 1, g, d, by omega, by go_num, by rw [HY.out]; exact hown.drewN _, hb5.drewN _, below_drewN hb _⟩
                case measure => simp [intOf]; omega
            · have d1 : decide (L[k]?.getD 0 ≤ R[j]?.getD 0) = false := by simpa using e1
              have HY := Lib.hid (pairsJ_no (Q := Q0) (show meets L R k j = false by rw [meets, decide_eq_false e1, Bool.false_and]))
              clear e1
              go_wp2_with fail
              go_quiet (fail)
              go_wp2
              go_roundw
              case rel => exact ⟨j + 1, g, d, by omega, by go_num, by rw [HY.out]; exact hown.drewN _, hb5.drewN _, below_drewN hb _⟩
              case measure => simp [intOf]; omega
          · obtain rfl : j = k := by omega
            go_wp2
            go_roundw
            case rel => exact ⟨j + 1, g, d, by omega, by go_num, by rw [HN.out]; exact hown, hb5, hb⟩
            case measure => simp [intOf]; omega
      · obtain rfl : k = n := by omega
        have hbr2 := hbr.up hb
        have hyb := hb5.two
        have hyr := hbr2.two
        have hlr := hbr2.lt
        have f0 := hbr2.frozen 0
        have f1 := hbr2.frozen 1
        have hw2 := Up.then_ hU1 hb
        have hfin := ((hbr2.set_ 0 (.int .i64 k)).set_ 1 (.slice (some ⟨g, 0, none⟩) k d)).two
        have hof := (hown.other_store (i := 0) hbr2 (by decide) (.int .i64 k)).other_store (i := 1) (hbr2.set_ 0 (.int .i64 k)) (by decide) (.slice (some ⟨g, 0, none⟩) k d)
        have hbf := (hw2.setCell (p := ⟨w.heap.size + 1, 0, none⟩) (by simp) (.int .i64 k)).setCell (p := ⟨w.heap.size + 1, 1, none⟩) (by simp) (.slice (some ⟨g, 0, none⟩) k d)
        go_wp2
        generalize (wo.setCell ⟨w.heap.size + 1, 0, none⟩ (.int .i64 k)).setCell ⟨w.heap.size + 1, 1, none⟩ (.slice (some ⟨g, 0, none⟩) k d) = Wf at hfin hof hbf ⊢
        refine bodyPost_ret (v := .tuple #[.agg #[.int .i64 k, .slice (some ⟨g, 0, none⟩) k d], .bool true]) ?_ rfl ?_
        · simp [results, Tryz.results121, go_sem, hfin]
        have e : graphRows L R = graphJ (meets L R) k k := by rw [graphRows, Hn.out]
        rw [Hg.out, e, Hn.out]
        exact givesGB_of (by rw [(graphJ_ok (J := meets L R) h1 h7 k (Nat.le_refl _)).1.len]) hof hU1.size hbf
end Go.Proofs.YthncdjcmlpiebaaGreat
namespace Go.Proofs.YthncdjcmlpiebaaGreat
open Go.RowKit
set_option maxRecDepth 100000 in
theorem goiRows_le6 {L R : List Int} (h : L.length ≤ 6) : (goiRows L R).length ≤ 6 := by
  rcases Bool.eq_false_or_eq_true (isModel L R) with e | e
  · rw [(goi_ok e).2, ints_len, (graphRows_ok e).len]; exact h
  · rw [(goi_no e).2]; simp
set_option maxRecDepth 100000 in
set_option maxHeartbeats 4000000 in
theorem l10Graph_any {g : Nat} {B : Option Addr} {n c : Nat} {bs : List Int} {w : World} (hC : Cur w g B n c bs) :
    Calls Tryz.prog 88 #[.pointer (some ⟨g, 0, none⟩)] w (Dr g B n c bs w fun v w' => Gv le6 w.heap.size v w') := by
  have hlow := hC.lt
  have hU0 : Up w (w.alloc (.cells #[.int .i64 0, .slice none 0 0] 26)) := by go_grown
  have hR0 := Blk.new w 26 #[.int .i64 0, .slice none 0 0]
  have hC0 := hC.up hU0
  have hg0 := gb_of_up (some g) hU0
  obtain ⟨gr, hgr⟩ : ∃ gr, gr = w.heap.size := ⟨_, rfl⟩
  go_enter Tryz.func88, Tryz.ntmps88
  go_wp2_with fail
  refine (l1Once_any hC0 2 (by omega) (by omega)).mono ?_
  rintro e w1 ⟨v, rfl, ⟨b, rfl⟩, hC1, hg1⟩
  have hs1 := hg1.size
  try simp only [World.size_alloc] at hs1
  have hR1 := hR0.grown hg1 (fun e => by injection e with e; omega)
  have hG1 := gb_trans hg0 hg1
  rw [← hgr] at hR1 ⊢
  have hgr' : w.heap.size ≤ gr := by omega
  have hgl1 : gr < w1.heap.size := hR1.lt
  clear hR0 hC0 hg0 hg1 hU0 hC hgr
  cases b
  · go_wp2_with fail
    refine (l9Model_any hC1).mono ?_
    rintro e w2 ⟨v, rfl, ⟨A, na, ca, C, nc, cc, L, R, rfl, ha, hb, hna, hnc⟩, hC2, hg2⟩
    have hR2 := hR1.grown hg2 (fun e => by injection e with e; omega)
    have hG2 := gb_trans hG1 hg2
    have hs2 := hg2.size
    clear hR1 hG1 hC1 hg2
    go_wp2_with fail
    refine (specGraphOfIntervals_any A C na nc ca cc L R w2 ha.1 hb.1 (by omega) (by omega)).mono ?_
    rintro e w3 ⟨A3, c3, rfl, hO3, hb3⟩
    have hle := goiRows_le6 (L := L) (R := R) (by rw [ha.1.1]; exact hna)
    obtain ⟨N, hN⟩ : ∃ N, N = goiNum L R := ⟨_, rfl⟩
    obtain ⟨X, hX⟩ : ∃ X, X = goiRows L R := ⟨_, rfl⟩
    obtain ⟨bm, hbm⟩ : ∃ bm, bm = isModel L R := ⟨_, rfl⟩
    rw [← hX] at hO3 hle
    rw [← hN, ← hX, ← hbm]
    clear hN hX hbm ha hb
    have hs3 := hb3.size
    have hU3 : Up w3 (w3.alloc (.cells #[.int .i64 N, .slice A3 X.length c3] 26)) := by go_grown
    have I : GX w g B n c bs gr w3.heap.size N A3 X.length c3 X (w3.alloc (.cells #[.int .i64 N, .slice A3 X.length c3] 26)) :=
      ⟨(hC2.up hb3).up hU3, (hR2.up hb3).up hU3, Blk.new _ _ _, (hO3.more (by omega)).up hU3, gb_up (gb_up hG2 hb3) hU3, hlow, hgr', by omega, by omega⟩
    clear hC2 hR2 hO3 hG2 hb3 hU3
    obtain ⟨gb, hgb⟩ : ∃ gb, gb = w3.heap.size := ⟨_, rfl⟩
    rw [← hgb] at I
    have hy := I.box.two
    have hf0 := I.res.frozen 0
    have hf1 := I.res.frozen 1
    have hyr := I.res.two
    obtain ⟨f1, hfin⟩ := I.fin (P := le6) hle
    clear I
    go_wp2_with fail
    rw [← hgb]
    generalize ((w3.alloc (.cells #[.int .i64 N, .slice A3 X.length c3] 26)).setCell ⟨gr, 0, none⟩ (.int .i64 N)).setCell ⟨gr, 1, none⟩ (.slice A3 X.length c3) = Wf at f1 hfin ⊢
    refine bodyPost_ret (v := .agg #[.int .i64 N, .slice A3 X.length c3]) ?_ rfl ?_
    · simp [results, Tryz.results88, go_sem, hfin]
    exact f1
  · go_wp2_with fail
    refine (l8Chordal_any hC1).mono ?_
    rintro e w2 ⟨v, rfl, ⟨N, A, m, d, X, rfl, ho, hX⟩, hC2, hg2⟩
    have hR2 := hR1.grown hg2 (fun e => by injection e with e; omega)
    have hG2 := gb_trans hG1 hg2
    have ho2 := ho.more (base' := w.heap.size) (by omega)
    have hyr := hR2.two
    have hf0 := hR2.frozen 0
    have hf1 := hR2.frozen 1
    obtain ⟨f1, hfin⟩ := finG (N := N) (P := le6) hR2 ho2 hX hC2 hG2 hgr' hlow
    clear hR2 ho2 ho hC2 hG2 hR1 hC1 hg2 hG1
    go_wp2
    generalize (w2.setCell ⟨gr, 0, none⟩ (.int .i64 N)).setCell ⟨gr, 1, none⟩ (.slice A m d) = Wf at f1 hfin ⊢
    refine bodyPost_ret (v := .agg #[.int .i64 N, .slice A m d]) ?_ rfl ?_
    · simp [results, Tryz.results88, go_sem, hfin]
    exact f1
end Go.Proofs.YthncdjcmlpiebaaGreat
namespace Go.Proofs.YthncdjcmlpiebaaGreat
/-- A vertex more, joined to the vertices of c. -/
def extG (Q : List Nat) (k c : Nat) : List Nat := (Q.mapIdx fun j r => if c.testBit j then r ||| 2 ^ k else r) ++ [c]
/-- Left ends' order, one vertex more at a time: S are those placed, O those whose interval has not ended. -/
def ivS (Q : List Nat) (n : Nat) : Nat → Nat → Nat → Bool
  | 0, _, _ => true
  | f + 1, S, O => (List.range n).any fun v => !S.testBit v && (dif (nb Q v &&& S) O == 0) && ivS Q n f (S ||| 2 ^ v) ((O &&& nb Q v) ||| 2 ^ v)
def atP3 (Q : List Nat) (n a b c : Nat) : Bool := (awayS Q n c).testBit a && (awayS Q n c).testBit b && (grow Q (awayS Q n c) (2 ^ b) n).testBit a
def trip3 (Q : List Nat) (n : Nat) : Bool := (List.range n).any fun a => (List.range n).any fun b => decide (a < b) && (List.range n).any fun c => decide (b < c) && (atP3 Q n a b c && atP3 Q n b c a && atP3 Q n c a b)
/-- An umbrella order, one vertex more at a time: o are those placed, newest first. -/
def umS (Q : List Nat) (n : Nat) : Nat → List Nat → Nat → Nat → Bool
  | 0, _, _, _ => true
  | f + 1, o, S, O => (List.range n).any fun v => !S.testBit v && (dif (nb Q v &&& S) O == 0) && (o.dropWhile fun u => (nb Q v).testBit u).all (fun u => !(nb Q v).testBit u) && umS Q n f (v :: o) (S ||| 2 ^ v) ((O &&& nb Q v) ||| 2 ^ v)
def clawS (Q : List Nat) (n : Nat) : Bool := (List.range n).any fun c => (List.range n).any fun x => (nb Q c).testBit x && (List.range x).any fun y => (nb Q c).testBit y && !(nb Q x).testBit y && (List.range y).any fun z => (nb Q c).testBit z && !(nb Q x).testBit z && !(nb Q y).testBit z
/-- All that can come of Q by f vertices more. -/
def allX (P : List Nat → Nat → Bool) : Nat → Nat → List Nat → Bool
  | 0, k, Q => P Q k
  | f + 1, k, Q => (List.range (2 ^ k)).all fun c => !clq Q c || allX P f (k + 1) (extG Q k c)
/-- All graphs that come of Q by f vertices more. -/
def leaves : Nat → Nat → List Nat → List (List Nat)
  | 0, _, Q => [Q]
  | f + 1, k, Q => (List.range (2 ^ k)).flatMap fun c => if clq Q c then leaves f (k + 1) (extG Q k c) else []
theorem allX_leaves (P : List Nat → Nat → Bool) (g : Nat) : ∀ f k Q, (∀ R ∈ leaves f k Q, allX P g (k + f) R = true) → allX P (f + g) k Q = true
  | 0, k, Q, h => by
    have := h Q (List.mem_cons_self ..)
    rw [Nat.zero_add]
    exact this
  | f + 1, k, Q, h => by
    rw [show f + 1 + g = (f + g) + 1 by omega, allX, List.all_eq_true]
    intro c hc
    by_cases hq : clq Q c = true
    · rw [hq, Bool.not_true, Bool.false_or]
      refine allX_leaves P g f (k + 1) _ fun R hR => ?_
      rw [show k + 1 + f = k + (f + 1) by omega]
      refine h R ?_
      rw [leaves, List.mem_flatMap]
      exact ⟨c, hc, by rw [if_pos hq]; exact hR⟩
    · rw [Bool.eq_false_iff.mpr hq, Bool.not_false, Bool.true_or]
theorem all_chunks {α : Type} (P : α → Bool) (l : List α) (m : Nat) (h : ∀ i, i ≤ l.length / m → ((l.drop (m * i)).take m).all P = true) (hm : 0 < m) : ∀ x ∈ l, P x = true := by
  intro x hx
  obtain ⟨j, hj, rfl⟩ := List.mem_iff_getElem.mp hx
  have h1 := h (j / m) (Nat.div_le_div_right (Nat.le_of_lt hj))
  rw [List.all_eq_true] at h1
  refine h1 _ (List.mem_iff_getElem.mpr ⟨j % m, ?_, ?_⟩)
  · rw [List.length_take, List.length_drop]
    have := Nat.mod_lt j hm
    have := Nat.div_add_mod j m
    omega
  · rw [List.getElem_take, List.getElem_drop]
    congr 1
    exact Nat.div_add_mod j m
end Go.Proofs.YthncdjcmlpiebaaGreat
namespace Go.Proofs.YthncdjcmlpiebaaGreat
def chk2 (Q : List Nat) (n : Nat) : Bool := (bif clawS Q n then ivS Q n n 0 0 else umS Q n n [] 0 0) || trip3 Q n
set_option maxRecDepth 100000 in
theorem chk6_0 : (((leaves 4 0 []).drop (4 * 0)).take 4).all (fun R => allX chk2 2 4 R) = true := by decide +kernel
set_option maxRecDepth 100000 in
theorem chk6_1 : (((leaves 4 0 []).drop (4 * 1)).take 4).all (fun R => allX chk2 2 4 R) = true := by decide +kernel
set_option maxRecDepth 100000 in
theorem chk6_2 : (((leaves 4 0 []).drop (4 * 2)).take 4).all (fun R => allX chk2 2 4 R) = true := by decide +kernel
set_option maxRecDepth 100000 in
theorem chk6_3 : (((leaves 4 0 []).drop (4 * 3)).take 4).all (fun R => allX chk2 2 4 R) = true := by decide +kernel
set_option maxRecDepth 100000 in
theorem chk6_4 : (((leaves 4 0 []).drop (4 * 4)).take 4).all (fun R => allX chk2 2 4 R) = true := by decide +kernel
set_option maxRecDepth 100000 in
theorem chk6_5 : (((leaves 4 0 []).drop (4 * 5)).take 4).all (fun R => allX chk2 2 4 R) = true := by decide +kernel
set_option maxRecDepth 100000 in
theorem chk6_6 : (((leaves 4 0 []).drop (4 * 6)).take 4).all (fun R => allX chk2 2 4 R) = true := by decide +kernel
set_option maxRecDepth 100000 in
theorem chk6_7 : (((leaves 4 0 []).drop (4 * 7)).take 4).all (fun R => allX chk2 2 4 R) = true := by decide +kernel
set_option maxRecDepth 100000 in
theorem chk6_8 : (((leaves 4 0 []).drop (4 * 8)).take 4).all (fun R => allX chk2 2 4 R) = true := by decide +kernel
set_option maxRecDepth 100000 in
theorem chk6_9 : (((leaves 4 0 []).drop (4 * 9)).take 4).all (fun R => allX chk2 2 4 R) = true := by decide +kernel
set_option maxRecDepth 100000 in
theorem leaves_len : (leaves 4 0 []).length = 39 := by decide +kernel
theorem chk_6 : allX chk2 6 0 [] = true := by
  refine allX_leaves chk2 2 4 0 [] (all_chunks _ _ 4 (fun i hi => ?_) (by decide))
  rw [leaves_len] at hi
  have : i = 0 ∨ i = 1 ∨ i = 2 ∨ i = 3 ∨ i = 4 ∨ i = 5 ∨ i = 6 ∨ i = 7 ∨ i = 8 ∨ i = 9 := by omega
  rcases this with h | h | h | h | h | h | h | h | h | h <;> rw [h]
  · exact chk6_0
  · exact chk6_1
  · exact chk6_2
  · exact chk6_3
  · exact chk6_4
  · exact chk6_5
  · exact chk6_6
  · exact chk6_7
  · exact chk6_8
  · exact chk6_9
set_option maxRecDepth 100000 in
theorem chk_0 : allX chk2 0 0 [] = true := by decide +kernel
set_option maxRecDepth 100000 in
theorem chk_1 : allX chk2 1 0 [] = true := by decide +kernel
set_option maxRecDepth 100000 in
theorem chk_2 : allX chk2 2 0 [] = true := by decide +kernel
set_option maxRecDepth 100000 in
theorem chk_3 : allX chk2 3 0 [] = true := by decide +kernel
set_option maxRecDepth 100000 in
theorem chk_4 : allX chk2 4 0 [] = true := by decide +kernel
set_option maxRecDepth 100000 in
theorem chk_5 : allX chk2 5 0 [] = true := by decide +kernel
theorem chk_all : ∀ k, k ≤ 6 → allX chk2 k 0 [] = true := by
  intro k hk
  have : k = 0 ∨ k = 1 ∨ k = 2 ∨ k = 3 ∨ k = 4 ∨ k = 5 ∨ k = 6 := by omega
  rcases this with h | h | h | h | h | h | h <;> rw [h]
  · exact chk_0
  · exact chk_1
  · exact chk_2
  · exact chk_3
  · exact chk_4
  · exact chk_5
  · exact chk_6
end Go.Proofs.YthncdjcmlpiebaaGreat
namespace Go.Proofs.YthncdjcmlpiebaaGreat
open Go.RowKit
/-- What lies in the first k sets. -/
def seenK (l : List Nat) : Nat → Nat
  | 0 => 0
  | k + 1 => seenK l k ||| nb l k
def lastK (l : List Nat) : Nat → Nat
  | 0 => 0
  | k + 1 => nb l k
def folAt (l : List Nat) (k : Nat) : Bool := dif (nb l k &&& seenK l k) (lastK l k) == 0
/-- The sets with a vertex follow one another. -/
def fol (l : List Nat) : Bool := (List.range l.length).all (folAt l)
theorem fol_true {l : List Nat} (h : ∀ k, k < l.length → folAt l k = true) : fol l = true := by
  rw [fol, List.all_eq_true]
  intro k hk
  exact h k (List.mem_range.1 hk)
theorem fol_false {l : List Nat} {k : Nat} (hk : k < l.length) (h : folAt l k = false) : fol l = false := by
  rw [fol, List.all_eq_false]
  exact ⟨k, List.mem_range.2 hk, by rw [h]; exact Bool.false_ne_true⟩
theorem fol_iff {l : List Nat} : fol l = true ↔ ∀ k, k < l.length → folAt l k = true := by
  rw [fol, List.all_eq_true]
  exact ⟨fun h k hk => h k (List.mem_range.2 hk), fun h k hk => h k (List.mem_range.1 hk)⟩
theorem nb_lt_all {l : List Nat} {b : Nat} (hb : 0 < b) (h : ∀ x ∈ l, x < b) (k : Nat) : nb l k < b := by
  rcases Nat.lt_or_ge k l.length with hk | hk
  · have e : nb l k = l[k] := by simp [nb, List.getD, List.getElem?_eq_getElem hk]
    rw [e]; exact h _ (List.getElem_mem hk)
  · have e : nb l k = 0 := by simp [nb, List.getD, List.getElem?_eq_none hk]
    rw [e]; exact hb
theorem seenK_lt {l : List Nat} {n : Nat} (h : ∀ x ∈ l, x < 2 ^ n) : ∀ k, seenK l k < 2 ^ n
  | 0 => Nat.two_pow_pos _
  | k + 1 => Nat.or_lt_two_pow (seenK_lt h k) (nb_lt_all (Nat.two_pow_pos _) h k)
theorem lastK_lt {l : List Nat} {n : Nat} (h : ∀ x ∈ l, x < 2 ^ n) : ∀ k, lastK l k < 2 ^ n
  | 0 => Nat.two_pow_pos _
  | k + 1 => nb_lt_all (Nat.two_pow_pos _) h k
/-- Vertex v begins anew at place k. -/
def begAt (l : List Nat) (v k : Nat) : Bool := (nb l k).testBit v && !(lastK l k).testBit v
/-- How often v begins in the first k places. -/
def bg (l : List Nat) (v : Nat) : Nat → Nat
  | 0 => 0
  | k + 1 => bg l v k + if begAt l v k then 1 else 0
theorem bg_yes {l : List Nat} {v k : Nat} (h : begAt l v k = true) : bg l v (k + 1) = bg l v k + 1 := by rw [bg, if_pos h]
theorem bg_no {l : List Nat} {v k : Nat} (h : begAt l v k = false) : bg l v (k + 1) = bg l v k := by rw [bg, h]; rfl
theorem bg_le (l : List Nat) (v : Nat) : ∀ k, bg l v k ≤ k
  | 0 => Nat.le_refl _
  | k + 1 => by have := bg_le l v k; rw [bg]; split <;> omega
theorem bg_mono (l : List Nat) (v : Nat) {j : Nat} : ∀ k, j ≤ k → bg l v j ≤ bg l v k
  | 0, h => by obtain rfl : j = 0 := by omega
               exact Nat.le_refl _
  | k + 1, h => by
    rcases Nat.lt_or_ge k j with h' | h'
    · obtain rfl : j = k + 1 := by omega
      exact Nat.le_refl _
    · have := bg_mono l v k h'
      rw [bg]
      omega
/-- v breaks the rule at place k. -/
def brk (l : List Nat) (v k : Nat) : Bool := begAt l v k && (seenK l k).testBit v
theorem last_seen (l : List Nat) (v : Nat) : ∀ k, (lastK l k).testBit v = true → (seenK l k).testBit v = true
  | 0, h => by simp [lastK] at h
  | k + 1, h => by rw [seenK, Nat.testBit_or]; rw [lastK] at h; rw [h, Bool.or_true]
theorem bg_seen (l : List Nat) (v : Nat) : ∀ k, (∀ j, j < k → brk l v j = false) → bg l v k = if (seenK l k).testBit v then 1 else 0
  | 0, _ => by simp [bg, seenK]
  | k + 1, h => by
    have h1 := bg_seen l v k fun j hj => h j (by omega)
    have h2 := h k (by omega)
    have h3 := last_seen l v k
    rw [bg, h1, seenK, Nat.testBit_or]
    unfold brk at h2
    unfold begAt at h2 ⊢
    revert h2 h3
    cases (seenK l k).testBit v <;> cases (nb l k).testBit v <;> cases (lastK l k).testBit v <;> simp
/-- The reference's test. -/
def consec (l : List Nat) : Bool := (List.range 7).all fun v => decide (bg l v l.length ≤ 1)
theorem consec_true {l : List Nat} (h : ∀ v, v < 7 → bg l v l.length ≤ 1) : consec l = true := by
  rw [consec, List.all_eq_true]
  intro v hv
  exact decide_eq_true (h v (List.mem_range.1 hv))
theorem consec_false {l : List Nat} {v : Nat} (hv : v < 7) (h : 1 < bg l v l.length) : consec l = false := by
  rw [consec, List.all_eq_false]
  exact ⟨v, List.mem_range.2 hv, by rw [decide_eq_true_eq]; omega⟩
theorem folAt_bit (l : List Nat) (v k : Nat) : (dif (nb l k &&& seenK l k) (lastK l k)).testBit v = brk l v k := by
  rw [testBit_dif, Nat.testBit_and, brk, begAt]
  cases (nb l k).testBit v <;> cases (seenK l k).testBit v <;> cases (lastK l k).testBit v <;> rfl
theorem folAt_brk {l : List Nat} {k : Nat} (h : ∀ v, brk l v k = false) : folAt l k = true := by
  rw [folAt, beq_iff_eq]
  apply Nat.eq_of_testBit_eq
  intro v
  rw [folAt_bit, h, Nat.zero_testBit]
theorem fol_consec {l : List Nat} (hl : ∀ x ∈ l, x < 128) : consec l = fol l := by
  rcases Bool.eq_false_or_eq_true (fol l) with e | e
  · rw [e]
    refine consec_true fun v _ => ?_
    have := bg_seen l v l.length fun j hj => by
      have := fol_iff.1 e j hj
      rw [folAt, beq_iff_eq] at this
      rw [← folAt_bit, this, Nat.zero_testBit]
    rw [this]
    split <;> omega
  · rw [e]
    have hex : ∃ v k, v < 7 ∧ k < l.length ∧ brk l v k = true := by
      refine Classical.byContradiction fun hno => ?_
      rw [← Bool.not_eq_true] at e
      refine e (fol_true fun k hk => folAt_brk fun v => ?_)
      rcases Bool.eq_false_or_eq_true (brk l v k) with e2 | e2
      · refine absurd ⟨v, k, ?_, hk, e2⟩ hno
        rw [brk, begAt, Bool.and_eq_true, Bool.and_eq_true] at e2
        exact bit_lt (k := 7) (nb_lt_all (by omega) hl k) e2.1.1
      · exact e2
    obtain ⟨v, k, hv, hk, hb⟩ := hex
    rcases fst_cases (brk l v) l.length with h | ⟨j, hj, hbj, hno⟩
    · rw [h k hk] at hb; cases hb
    · have h1 := bg_seen l v j hno
      rw [brk, Bool.and_eq_true] at hbj
      rw [hbj.2] at h1
      have h2 := bg_yes hbj.1
      have h3 := bg_mono l v (j := j + 1) l.length (by omega)
      refine consec_false hv ?_
      simp at h1
      omega
def mayC (l : List Nat) (s : Nat) : Bool := !decide (s ∈ l) && fol (l ++ [s])
/-- All that f sets more make of l. -/
def ords (L : List Nat) : Nat → List Nat → List (List Nat)
  | 0, l => [l]
  | f + 1, l => L.flatMap fun s => if mayC l s then ords L f (l ++ [s]) else []
def ordsAt (L : List Nat) (f : Nat) (l : List Nat) (k : Nat) : List (List Nat) := if mayC l (nb L k) then ords L f (l ++ [nb L k]) else []
/-- Those by the first k. -/
def ordsK (L : List Nat) (f : Nat) (l : List Nat) : Nat → List (List Nat)
  | 0 => []
  | k + 1 => ordsK L f l k ++ ordsAt L f l k
theorem ordsK_take (L : List Nat) (f : Nat) (l : List Nat) : ∀ k, k ≤ L.length → ordsK L f l k = (L.take k).flatMap fun s => if mayC l s then ords L f (l ++ [s]) else []
  | 0, _ => by simp [ordsK]
  | k + 1, h => by
    have e : nb L k = L[k] := by simp [nb, List.getD, List.getElem?_eq_getElem (show k < L.length by omega)]
    rw [ordsK, ordsK_take L f l k (by omega), List.take_succ_eq_append_getElem (by omega), List.flatMap_append, ordsAt, e]
    simp
theorem ords_all (L : List Nat) (f : Nat) (l : List Nat) : ordsK L f l L.length = ords L (f + 1) l := by
  rw [ordsK_take L f l _ (Nat.le_refl _), List.take_length]; rfl
theorem ordsAt_off {L : List Nat} {f k : Nat} {l : List Nat} (h : mayC l (nb L k) = false) : ordsAt L f l k = [] := by rw [ordsAt, h]; rfl
theorem ordsAt_on {L : List Nat} {f k : Nat} {l : List Nat} (h : mayC l (nb L k) = true) : ordsAt L f l k = ords L f (l ++ [nb L k]) := by rw [ordsAt, if_pos h]
theorem ordsK_off {L : List Nat} {f k : Nat} {l : List Nat} (h : mayC l (nb L k) = false) : ordsK L f l (k + 1) = ordsK L f l k := by rw [ordsK, ordsAt_off h, List.append_nil]
theorem ordsK_on {L : List Nat} {f k : Nat} {l : List Nat} (h : mayC l (nb L k) = true) : ordsK L f l (k + 1) = ordsK L f l k ++ ords L f (l ++ [nb L k]) := by rw [ordsK, ordsAt_on h]
/-- Those by the others come behind. -/
theorem ordsK_pre (L : List Nat) (f : Nat) (l : List Nat) {k : Nat} : ∀ m, k ≤ m → ∃ r, ordsK L f l m = ordsK L f l k ++ r
  | 0, h => by obtain rfl : k = 0 := by omega
               exact ⟨[], by simp⟩
  | m + 1, h => by
    rcases Nat.lt_or_ge m k with h' | h'
    · obtain rfl : k = m + 1 := by omega
      exact ⟨[], by simp⟩
    · obtain ⟨r, e⟩ := ordsK_pre L f l m h'
      exact ⟨r ++ ordsAt L f l m, by rw [ordsK, e, List.append_assoc]⟩
/-- What is found has its length and its sets. -/
theorem ords_spec {L : List Nat} {b : Nat} (hL : ∀ x ∈ L, x < b) : ∀ {f : Nat} {l r : List Nat}, r ∈ ords L f l → (∀ x ∈ l, x < b) → r.length = l.length + f ∧ ∀ x ∈ r, x < b := by
  intro f
  induction f with
  | zero =>
    intro l r h hl
    obtain rfl : r = l := by simpa [ords] using h
    exact ⟨rfl, hl⟩
  | succ f ih =>
    intro l r h hl
    rw [ords, List.mem_flatMap] at h
    obtain ⟨s, hs, h⟩ := h
    split at h
    · have := ih h (fun x hx => by
        rcases List.mem_append.1 hx with hx | hx
        · exact hl x hx
        · obtain rfl : x = s := by simpa using hx
          exact hL _ hs)
      refine ⟨?_, this.2⟩
      rw [this.1, List.length_append]
      simp only [List.length_singleton]
      omega
    · cases h
def visR {σ : Type} (step : σ → List Nat → σ × Bool) : σ → List (List Nat) → σ × Bool
  | s, [] => (s, true)
  | s, x :: t => if (step s x).2 then visR step (step s x).1 t else ((step s x).1, false)
theorem visR_one {σ : Type} (step : σ → List Nat → σ × Bool) (s : σ) (x : List Nat) : visR step s [x] = step s x := by
  rw [visR]
  rcases h : step s x with ⟨s', b⟩
  cases b <;> simp [visR]
theorem visR_app {σ : Type} (step : σ → List Nat → σ × Bool) : ∀ (s : σ) (xs ys : List (List Nat)), visR step s (xs ++ ys) = if (visR step s xs).2 then visR step (visR step s xs).1 ys else visR step s xs
  | s, [], ys => by simp [visR]
  | s, x :: t, ys => by
    rw [List.cons_append, visR]
    by_cases h : (step s x).2 = true
    · rw [if_pos h, visR_app step _ t ys, visR, if_pos h]
    · rw [if_neg h, visR, if_neg h]; simp
theorem visR_on {σ : Type} {step : σ → List Nat → σ × Bool} {s s' : σ} {xs ys : List (List Nat)} (h : visR step s xs = (s', true)) : visR step s (xs ++ ys) = visR step s' ys := by rw [visR_app, h]; rfl
theorem visR_off {σ : Type} {step : σ → List Nat → σ × Bool} {s s' : σ} {xs ys : List (List Nat)} (h : visR step s xs = (s', false)) : visR step s (xs ++ ys) = (s', false) := by rw [visR_app, h]; rfl
/-- The first one. -/
def stepF (_ : Option (List Nat)) (l : List Nat) : Option (List Nat) × Bool := (some l, false)
theorem visR_first (xs : List (List Nat)) : (visR stepF none xs).1 = xs.head? := by
  cases xs <;> simp [visR, stepF]
/-- They are counted, up to 1000. -/
def stepN (z : Int) (_ : List Nat) : Int × Bool := (wrap64 (z + 1), decide (wrap64 (z + 1) < 1000))
theorem visR_count : ∀ (xs : List (List Nat)) (k : Nat), k < 1000 → (visR stepN (k : Int) xs).1 = (min (k + xs.length) 1000 : Nat)
  | [], k, h => by
    have e : min (k + ([] : List (List Nat)).length) 1000 = k := by rw [List.length_nil]; omega
    rw [e]; rfl
  | x :: t, k, h => by
    have hc : (k : Int) + 1 = ((k + 1 : Nat) : Int) := by omega
    have hw : wrap64 ((k : Int) + 1) = ((k + 1 : Nat) : Int) := (IntWalk.wrap64_in ((k : Int) + 1) ⟨by omega, by omega⟩).trans hc
    have e : stepN (k : Int) x = (((k + 1 : Nat) : Int), decide (((k + 1 : Nat) : Int) < 1000)) := by rw [stepN, hw]
    have hl : (x :: t).length = t.length + 1 := rfl
    rw [visR, e, hl]
    by_cases h2 : k + 1 < 1000
    · have hd : decide (((k + 1 : Nat) : Int) < 1000) = true := decide_eq_true (by omega)
      have e2 : min (k + (t.length + 1)) 1000 = min (k + 1 + t.length) 1000 := by omega
      rw [hd, e2]
      exact visR_count t (k + 1) h2
    · have hd : decide (((k + 1 : Nat) : Int) < 1000) = false := decide_eq_false (by omega)
      have e2 : min (k + (t.length + 1)) 1000 = k + 1 := by omega
      rw [hd, e2]
      rfl
theorem maxK_mem {Q : List Nat} {n s : Nat} : ∀ {k}, 1 ≤ s → s ≤ k → maxi Q n s = true → s ∈ maxK Q n k
  | 0, h1, h2, _ => by omega
  | k + 1, h1, h2, h3 => by
    rw [maxK, List.mem_append]
    rcases Nat.lt_or_ge k s with h | h
    · obtain rfl : s = k + 1 := by omega
      rw [if_pos h3]
      exact .inr (by simp)
    · exact .inl (maxK_mem h1 h h3)
theorem clqAt_iff {Q : List Nat} {s v : Nat} : clqAt Q s v = true ↔ ∀ i, (s.testBit i && !(nb Q v).testBit i) = decide (v = i) := by
  rw [clqAt, beq_iff_eq]
  constructor
  · intro e i
    have := congrArg (fun x => x.testBit i) e
    simpa only [testBit_dif, Nat.testBit_two_pow] using this
  · intro h
    apply Nat.eq_of_testBit_eq
    intro i
    rw [testBit_dif, Nat.testBit_two_pow, h i]
/-- A clique to which no greater one below 2^n belongs is maximal. -/
theorem top_maxi {n : Nat} {Q : List Nat} (h : GOk n Q) {s : Nat} (hs : s < 2 ^ n) (hc : clq Q s = true) (hno : ∀ t, s < t → t < 2 ^ n → clq Q t = false) : maxi Q n s = true := by
  rw [maxi_yes hc]
  have key : ∀ v, v ≤ n → standsK Q s v = true := by
    intro v
    induction v with
    | zero => intro _; rfl
    | succ v ih =>
      intro hv
      rw [standsK, ih (by omega), Bool.true_and, stands]
      rcases Bool.eq_false_or_eq_true (s.testBit v) with e | e
      · rw [e]; rfl
      · rw [e, Bool.false_or, bne_iff_ne]
        intro hz
        have hsub : ∀ i, s.testBit i = true → (nb Q v).testBit i = true := by
          intro i hi
          have := congrArg (fun x => x.testBit i) hz
          simp only [testBit_dif, Nat.zero_testBit, hi, Bool.true_and] at this
          simpa using this
        have hlt : s < s ||| 2 ^ v := by
          have hd : s &&& 2 ^ v = 0 := by
            apply Nat.eq_of_testBit_eq
            intro i
            rw [Nat.testBit_and, Nat.testBit_two_pow, Nat.zero_testBit]
            by_cases hi : v = i
            · subst hi; rw [e]; rfl
            · simp [hi]
          have := add_of_and hd
          have := Nat.two_pow_pos v
          omega
        have hlt2 : s ||| 2 ^ v < 2 ^ n := Nat.or_lt_two_pow hs (Nat.pow_lt_pow_right (by omega) (by omega))
        have hcl := hno _ hlt hlt2
        have : clq Q (s ||| 2 ^ v) = true := by
          rw [clq_iff]
          intro u hu hb
          rw [Nat.testBit_or, Nat.testBit_two_pow] at hb
          rw [clqAt_iff]
          intro i
          rw [Nat.testBit_or, Nat.testBit_two_pow]
          by_cases huv : v = u
          · subst huv
            by_cases hi : v = i
            · subst hi; simp [h.irr]
            · simp only [hi, decide_false, Bool.or_false]
              rcases Bool.eq_false_or_eq_true (s.testBit i) with e3 | e3
              · rw [e3, hsub i e3]; rfl
              · rw [e3]; rfl
          · have hsu : s.testBit u = true := by simpa [huv] using hb
            have h1 := clqAt_iff.1 (clq_iff.1 hc u hu hsu) i
            by_cases hi : v = i
            · subst hi
              have : (nb Q u).testBit v = true := by rw [h.sym]; exact hsub u hsu
              simp [this, Ne.symm huv]
            · simpa [hi] using h1
        rw [hcl] at this
        cases this
  exact key n (Nat.le_refl _)
theorem top_exists {P : Nat → Bool} : ∀ k, (∃ s, 1 ≤ s ∧ s ≤ k ∧ P s = true) → ∃ s, 1 ≤ s ∧ s ≤ k ∧ P s = true ∧ ∀ t, s < t → t ≤ k → P t = false
  | 0, ⟨s, h1, h2, _⟩ => by omega
  | k + 1, ⟨s, h1, h2, h3⟩ => by
    rcases Bool.eq_false_or_eq_true (P (k + 1)) with e | e
    · exact ⟨k + 1, by omega, Nat.le_refl _, e, fun t h4 h5 => by omega⟩
    · have hs : s ≤ k := by
        rcases Nat.lt_or_ge k s with h | h
        · obtain rfl : s = k + 1 := by omega
          rw [e] at h3; cases h3
        · exact h
      obtain ⟨t, t1, t2, t3, t4⟩ := top_exists k ⟨s, h1, hs, h3⟩
      refine ⟨t, t1, by omega, t3, fun u h4 h5 => ?_⟩
      rcases Nat.lt_or_ge k u with h | h
      · obtain rfl : u = k + 1 := by omega
        exact e
      · exact t4 u h4 h
theorem clq_single {n : Nat} {Q : List Nat} (h : GOk n Q) : clq Q 1 = true := by
  rw [clq_iff]
  intro v _ hb
  have hv : v = 0 := by
    have h1 : (1 : Nat) = 2 ^ 0 := rfl
    rw [h1, Nat.testBit_two_pow] at hb
    simpa using (of_decide_eq_true hb).symm
  subst hv
  rw [clqAt_iff]
  intro i
  have h1 : (1 : Nat) = 2 ^ 0 := rfl
  rw [h1, Nat.testBit_two_pow]
  by_cases hi : 0 = i
  · subst hi; simp [h.irr]
  · simp [hi]
theorem maxCliques_pos {n : Nat} {Q : List Nat} (h : GOk n Q) : 0 < (maxCliques Q n).length := by
  have hp := full_pos h.pos
  obtain ⟨s, h1, h2, h3, h4⟩ := top_exists (P := clq Q) (2 ^ n - 1) ⟨1, by omega, by omega, clq_single h⟩
  have hm : maxi Q n s = true := top_maxi h (by have := Nat.two_pow_pos n; omega) h3 fun t ht1 ht2 => h4 t ht1 (by omega)
  exact List.length_pos_of_mem (maxK_mem h1 h2 hm)
theorem maxCliques_lt {n : Nat} {Q : List Nat} {s : Nat} (h : s ∈ maxCliques Q n) : s < 2 ^ n := by
  have := (mem_maxK h).2.1
  have := Nat.two_pow_pos n
  omega
theorem maxK_nodup (Q : List Nat) (n : Nat) : ∀ k, (maxK Q n k).Nodup
  | 0 => by simp [maxK]
  | k + 1 => by
    rw [maxK, List.nodup_append]
    refine ⟨maxK_nodup Q n k, by split <;> simp, fun a ha b hb e => ?_⟩
    have := (mem_maxK ha).2.1
    split at hb
    · have : b = k + 1 := by simpa using hb
      omega
    · cases hb
theorem maxK_sorted (Q : List Nat) (n : Nat) : ∀ k, (maxK Q n k).Pairwise (· ≤ ·)
  | 0 => by simp [maxK]
  | k + 1 => by
    rw [maxK, List.pairwise_append]
    refine ⟨maxK_sorted Q n k, by split <;> simp, fun a ha b hb => ?_⟩
    have := (mem_maxK ha).2.1
    split at hb
    · have : b = k + 1 := by simpa using hb
      omega
    · cases hb
end Go.Proofs.YthncdjcmlpiebaaGreat
