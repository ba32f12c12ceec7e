/- Walks of chapter 9: the graph of intervals. Draws: graphs that may be interval graphs. Chordal graphs of at most six vertices, one vertex more at a time: each has an order of intervals or a triple; an umbrella order, a claw or a triple. No program in sight. The run over all chordal graphs of at most six vertices, given by an elimination order. Interval models, plain: no holes, cliques have points, the maximal cliques in the points' order follow one another. No program in sight. Chapter 12, plain: the least left ends of a unit model, reckoned in two ways. No program in sight. -/
import Derived.Test.YthncdjcmlpiebaaGreatQp01
import Derived.Test.YthncdjcmlpiebaaGreatQp02
import Derived.Test.YthncdjcmlpiebaaGreatQp06
import Derived.Test.YthncdjcmlpiebaaGreatQp09
import Derived.Test.YthncdjcmlpiebaaGreatQp10
import Derived.Test.YthncdjcmlpiebaaGreatQp11
namespace Go.Proofs.YthncdjcmlpiebaaGreat
open Go.RowKit
set_option maxRecDepth 100000 in
theorem GivesGB.out {N : Int} {n : Nat} {Q : List Nat} {b : Bool} {w : World} {e : Ending} {w' : World} (h : GivesGB N (ints Q) b w e w') (hl : Q.length = n) (h0 : 0 < n) :
    ∃ g d, e = .returned (.tuple #[.agg #[.int .i64 N, .slice (some ⟨g, 0, none⟩) n d], .bool b]) ∧ OwnI w' w.heap.size (some ⟨g, 0, none⟩) n d (ints Q) ∧ Below w.heap.size w w' := by
  obtain ⟨B, d, rfl, hown, hb⟩ := h
  have e : (ints Q).length = n := by rw [ints_len, hl]
  rw [e] at hown ⊢
  obtain ⟨g, rfl⟩ := hown.form h0
  exact ⟨g, d, rfl, hown, hb⟩
set_option maxRecDepth 100000 in
theorem i64_xor7 {a b : Nat} (ha : a < 129) (hb : b < 129) : bits .xor .i64 (a : Int) (b : Int) = ((a ^^^ b : Nat) : Int) := i64_xor_nat a b (by omega) (by omega)
set_option maxRecDepth 100000 in
set_option maxHeartbeats 1000000 in
theorem flip_ok (g n d v x base : Nat) (Q : List Nat) (w : World) (hown : OwnI w base (some ⟨g, 0, none⟩) n d (ints Q)) (h : GOk n Q) (hv : v < n) (hx : x < n) (hne : v ≠ x) (hbit : (nb Q v).testBit x = false) :
    Calls Tryz.prog 159 #[.agg #[.int .i64 n, .slice (some ⟨g, 0, none⟩) n d], .int .i64 v, .int .i64 x] w fun e w' => e = .returned (.tuple #[]) ∧ OwnI w' base (some ⟨g, 0, none⟩) n d (ints (addE Q v x)) ∧ w.grownBy w' (some g) := by
  have hn7 := h.le
  have hl := h.len
  have hs1 := xor_bit hbit
  have hs2 := xor_bit (show (nb Q x).testBit v = false by rw [← h.sym]; exact hbit)
  have hv7 := h.nb7 v
  have hx7 := h.nb7 x
  have hpx := p2_le (k := x) (by omega)
  have hpv := p2_le (k := v) (by omega)
  have hv1 : IntKind.i64.wrap ((2 : Int) ^ x) = ((p2 x : Nat) : Int) := by rw [IntWalk.i64_left]; exact shl_p2 (by omega)
  have hv2 : IntKind.i64.wrap ((2 : Int) ^ v) = ((p2 v : Nat) : Int) := by rw [IntWalk.i64_left]; exact shl_p2 (by omega)
  have hq1 : bits .xor .i64 ((nb Q v : Nat) : Int) ((p2 x : Nat) : Int) = ((nb Q v ||| 2 ^ x : Nat) : Int) := by rw [i64_xor7 (by omega) (by omega), ← hs1]; rfl
  have hq2 : bits .xor .i64 ((nb Q x : Nat) : Int) ((p2 v : Nat) : Int) = ((nb Q x ||| 2 ^ v : Nat) : Int) := by rw [i64_xor7 (by omega) (by omega), ← hs2]; rfl
  have hb0 := Blk.new w 26 #[.int .i64 n, .slice (some ⟨g, 0, none⟩) n d]
  have hgl : g < w.heap.size := (hown.block g rfl).2
  replace hown := hown.alloc (.cells #[.int .i64 n, .slice (some ⟨g, 0, none⟩) n d] 26)
  have hcv := hown.nat hv
  have hfv := hown.frz v
  have hyb := hb0.two
  clear hs1 hs2
  go_enter Tryz.func159, Tryz.ntmps159
  go_wp2_with fail
  obtain ⟨W0, hW0⟩ : ∃ W0, W0 = w.alloc (.cells #[.int .i64 n, .slice (some ⟨g, 0, none⟩) n d] 26) := ⟨_, rfl⟩
  have hgr0 : w.grownBy W0 (some g) := by rw [hW0]; exact World.grownBy_alloc _ _ _
  rw [← hW0] at hb0 hown hcv hfv hyb
  rw [← hW0]
  clear hW0
  go_still_tail 9, (by kernel_rfl)
  change wpList _ _ _ _ _ W0.drew
  have hcv2 : W0.drew.cell? ⟨g, v, none⟩ = some (.int .i64 (nb Q v)) := hcv
  have hfv2 : W0.drew.frozen? ⟨g, v, none⟩ = false := hfv
  go_wp2
  obtain ⟨w4, hw4⟩ : ∃ w4, w4 = (W0.setCell ⟨g, v, none⟩ (.int .i64 ((nb Q v ||| 2 ^ x : Nat) : Int))).drew := ⟨_, rfl⟩
  obtain ⟨Q1, hQ1⟩ : ∃ Q1, Q1 = Q.set v (nb Q v ||| 2 ^ x) := ⟨_, rfl⟩
  have hown4 : OwnI w4 base (some ⟨g, 0, none⟩) n d (ints Q1) := by rw [hw4, hQ1]; exact (hown.putNat v (nb Q v ||| 2 ^ x)).drew
  have hb4 : Blk w4 w.heap.size 26 #[.int .i64 n, .slice (some ⟨g, 0, none⟩) n d] := by rw [hw4]; exact (hb0.far (fun e => own_blk_ne (e := 3) hown hb0 (by decide) (by simp [Value.ownBlock, e])) _).drew
  have hgr4 : w.grownBy w4 (some g) := by rw [hw4]; exact grown_drew (hgr0.trans (grown_setCell W0 ⟨g, v, none⟩ _))
  rw [← hw4]
  clear hw4 hyb hcv hfv hcv2 hfv2
  have hyb := hb4.two
  have hcx := hown4.nat hx
  have hfx := hown4.frz x
  have hQx : nb Q1 x = nb Q x := by rw [hQ1, nb_set' (by omega), if_neg (fun e => hne e.symm)]
  have hQ2 : Q1.set x (nb Q x ||| 2 ^ v) = addE Q v x := by rw [hQ1, addE]
  rw [hQx] at hcx
  clear hQx hQ1
  have hof := (hown4.putNat x (nb Q x ||| 2 ^ v)).drew
  rw [hQ2] at hof
  have hgf := grown_drew (hgr4.trans (grown_setCell w4 ⟨g, x, none⟩ (.int .i64 ((nb Q x ||| 2 ^ v : Nat) : Int))))
  go_wp2_with fail
  go_still_tail 9, (by kernel_rfl)
  change wpList _ _ _ _ _ w4.drew
  have hcx2 : w4.drew.cell? ⟨g, x, none⟩ = some (.int .i64 (nb Q x)) := hcx
  have hfx2 : w4.drew.frozen? ⟨g, x, none⟩ = false := hfx
  go_wp2
  go_end0
  exact ⟨rfl, hof, hgf⟩
set_option maxRecDepth 100000 in
set_option maxHeartbeats 1000000 in
theorem joined_ok (A B : Option Addr) (n m ca cb bx i j : Nat) (L R : List Int) (w : World) (hL : RI w A n L) (hR : RI w B m R) (hbx : Blk w bx 31 #[.slice A n ca, .slice B m cb]) (hi : i < n) (hj : j < n) (hnm : n = m) :
    Calls Tryz.prog 135 #[.int .i64 j, .int .i64 i, .pointer (some ⟨bx, 0, none⟩)] w fun e w' => e = .returned (.bool (meets L R i j)) ∧ ∃ k, w' = w.drewN k := by
  subst hnm
  obtain ⟨a, rfl, _, hcl⟩ := hL.addr (show 0 < n by omega)
  obtain ⟨b, rfl, _, hcr⟩ := hR.addr (show 0 < n by omega)
  have h1 := hcl i hi
  have h2 := hcl j hj
  have h3 := hcr i hi
  have h4 := hcr j hj
  have hyb := hbx.two
  clear hcl hcr
  by_cases e1 : L.getD j 0 ≤ R.getD i 0
  · have d1 : decide (L[j]?.getD 0 ≤ R[i]?.getD 0) = true := by simpa using e1
    have HM := Lib.hid (show meets L R i j = decide (L[i]?.getD 0 ≤ R[j]?.getD 0) by rw [meets, decide_eq_true e1, Bool.and_true]; rfl)
    clear e1
    go_enter Tryz.func135, Tryz.ntmps135
    go_wp2_with fail
    go_quiet (fail)
    go_wp2
    go_ret
    exact ⟨ret_bool HM.out.symm, _, rfl⟩
  · have d1 : decide (L[j]?.getD 0 ≤ R[i]?.getD 0) = false := by simpa using e1
    have HM := Lib.hid (show meets L R i j = false by rw [meets, decide_eq_false e1, Bool.and_false])
    clear e1
    go_enter Tryz.func135, Tryz.ntmps135
    go_wp2_with fail
    go_quiet (fail)
    go_wp2
    go_ret
    exact ⟨ret_bool HM.out.symm, _, rfl⟩
set_option maxRecDepth 100000 in
set_option maxHeartbeats 2000000 in
theorem graphOf_ok (A B : Option Addr) (n ca cb bx : Nat) (L R : List Int) (w : World) (hL : RI w A n L) (hR : RI w B n R) (hbx : Blk w bx 31 #[.slice A n ca, .slice B n cb]) (h1 : 1 ≤ n) (h7 : n ≤ 7) :
    Calls Tryz.prog 134 #[.int .i64 n, .func (.func 135) #[] #[.pointer (some ⟨bx, 0, none⟩)]] w fun e w' => ∃ g d, e = .returned (.agg #[.int .i64 n, .slice (some ⟨g, 0, none⟩) n d]) ∧ OwnI w' w.heap.size (some ⟨g, 0, none⟩) n d (ints (graphJ (meets L R) n n)) ∧ Below w.heap.size w w' := by
  have hmk := make_ints n (by omega)
  have hlx := hbx.lt
  have hgn := ((Blk.new_at (w := w.alloc (.cells #[.int .i64 0, .slice none 0 0] 26)) (t := 3) (cs := natCells (List.replicate n 0)) (g := w.heap.size + 1) (by simp)).alloc (.cells #[.int .i64 n, .slice (some ⟨w.heap.size + 1, 0, none⟩) n n] 26)).own (base := w.heap.size) (n := n) (by omega) (by rw [natCells_size]; simp) (by unfold maxLen; omega)
  have hb4 := ((Blk.new w 26 #[.int .i64 0, .slice none 0 0]).alloc (.cells (natCells (List.replicate n 0)) 3)).alloc (.cells #[.int .i64 n, .slice (some ⟨w.heap.size + 1, 0, none⟩) n n] 26)
  have hb5 := Blk.new_at (w := (w.alloc (.cells #[.int .i64 0, .slice none 0 0] 26)).alloc (.cells (natCells (List.replicate n 0)) 3)) (t := 26) (cs := #[.int .i64 n, .slice (some ⟨w.heap.size + 1, 0, none⟩) n n]) (g := w.heap.size + 2) (by simp)
  have hbel : Below w.heap.size w (((w.alloc (.cells #[.int .i64 0, .slice none 0 0] 26)).alloc (.cells (natCells (List.replicate n 0)) 3)).alloc (.cells #[.int .i64 n, .slice (some ⟨w.heap.size + 1, 0, none⟩) n n] 26)) := by go_grown
  rw [natCells_zero] at hgn hb4 hb5 hbel
  have hown0 : OwnI (((w.alloc (.cells #[.int .i64 0, .slice none 0 0] 26)).alloc (.cells (zeros n) 3)).alloc (.cells #[.int .i64 n, .slice (some ⟨w.heap.size + 1, 0, none⟩) n n] 26)) w.heap.size (some ⟨w.heap.size + 1, 0, none⟩) n n (ints (graphJ (meets L R) n 0)) := by
    have e : (zeros n).toList = (ints (graphJ (meets L R) n 0)).map (Value.int .i64) := by rw [← natCells_zero]; simp [natCells, graphJ]
    rw [e] at hgn
    exact hgn
  clear hgn
  go_enter Tryz.func134, Tryz.ntmps134
  go_wp2_with fail
  clear hmk
  go_loopw [13] (fun i wr => ∃ k : Nat, k ≤ n ∧ i = .int .i64 k ∧ OwnI wr w.heap.size (some ⟨w.heap.size + 1, 0, none⟩) n n (ints (graphJ (meets L R) n k)) ∧ Blk wr w.heap.size 26 #[.int .i64 0, .slice none 0 0] ∧ Blk wr (w.heap.size + 2) 26 #[.int .i64 n, .slice (some ⟨w.heap.size + 1, 0, none⟩) n n] ∧ Below w.heap.size w wr) (fun i _ => n - (intOf i).toNat)
  case atStart => exact ⟨0, Nat.zero_le _, rfl, hown0, hb4, hb5, hbel⟩
  case round =>
    clear hown0 hb4 hb5 hbel
    obtain ⟨k, hk, rfl, hown, hb4, hb5, hb⟩ := hrel
    obtain ⟨wo, rfl⟩ : ∃ wo : World, wo = wr := ⟨_, rfl⟩
    by_cases hlt : k < n
    · have HG := Lib.hid (graphJ_ok (J := meets L R) h1 h7 k (by omega))
      have HN := Lib.hid (show graphJ (meets L R) n (k + 1) = pairsJ (meets L R) (graphJ (meets L R) n k) k k from rfl)
      obtain ⟨Q0, hQ0⟩ : ∃ Q0, Q0 = graphJ (meets L R) n k := ⟨_, rfl⟩
      rw [← hQ0] at hown HG HN
      clear hQ0
      have hp0 : pairsJ (meets L R) Q0 k 0 = Q0 := rfl
      rw [← hp0] at hown
      clear hp0
      go_wp2_with fail
      go_loopw [17] (fun i wr => ∃ j : Nat, j ≤ k ∧ i = .int .i64 j ∧ OwnI wr w.heap.size (some ⟨w.heap.size + 1, 0, none⟩) n n (ints (pairsJ (meets L R) Q0 k j)) ∧ Blk wr w.heap.size 26 #[.int .i64 0, .slice none 0 0] ∧ Blk wr (w.heap.size + 2) 26 #[.int .i64 n, .slice (some ⟨w.heap.size + 1, 0, none⟩) n n] ∧ Below w.heap.size w wr) (fun i _ => k - (intOf i).toNat)
      case atStart => exact ⟨0, Nat.zero_le _, rfl, hown, hb4, hb5, hb⟩
      case round =>
        clear hown hb4 hb5 hb
        obtain ⟨j, hj, rfl, hown, hb4, hb5, hb⟩ := hrel
        obtain ⟨wi, rfl⟩ : ∃ wi : World, wi = wr := ⟨_, rfl⟩
        by_cases hjt : j < k
        · have HP := Lib.hid (pairsJ_ok (J := meets L R) HG.out hlt j hj)
          rcases Bool.eq_false_or_eq_true (meets L R k j) with e1 | e1
          · have HY := Lib.hid (pairsJ_yes (Q := Q0) e1)
            have HE := Lib.hid e1
            clear e1
            obtain ⟨Q1, hQ1⟩ : ∃ Q1, Q1 = pairsJ (meets L R) Q0 k j := ⟨_, rfl⟩
            rw [← hQ1] at hown HP HY
            clear hQ1
            go_wp2_with fail
            refine (joined_ok A B n n ca cb bx k j L R _ (hL.up hb) (hR.up hb) (hbx.up hb) hlt (by omega) rfl).mono ?_
            rintro e w2 ⟨rfl, q, hq⟩
            rw [HE.out]
            have hown2 : OwnI w2 w.heap.size (some ⟨w.heap.size + 1, 0, none⟩) n n (ints Q1) := by rw [hq]; exact hown.drewN q
            have hb42 : Blk w2 w.heap.size 26 #[.int .i64 0, .slice none 0 0] := by rw [hq]; exact hb4.drewN q
            have hb52 : Blk w2 (w.heap.size + 2) 26 #[.int .i64 n, .slice (some ⟨w.heap.size + 1, 0, none⟩) n n] := by rw [hq]; exact hb5.drewN q
            have hbb : Below w.heap.size w w2 := by rw [hq]; exact below_drewN hb q
            clear hq
            have hyb := hb52.two
            have hll := hb52.lt
            go_wp2_with fail
            refine (flip_ok (w.heap.size + 1) n n j k w.heap.size Q1 _ hown2 HP.out.1 (by omega) hlt (by omega) (upToPair_bit HP.out hjt).2).mono ?_
            rintro e w3 ⟨rfl, hown3, hg3⟩
            rw [addE_swap (by omega), ← HY.out] at hown3
            have hb43 := hb42.grown hg3 (by simp)
            have hb53 := hb52.grown hg3 (by simp)
            have hb3 := hbb.grown hg3 (by omega) (fun k hk => by simp at hk; omega)
            go_wp2
            go_roundw
            case rel => exact ⟨j + 1, by omega, by go_num, hown3, hb43, hb53, hb3⟩
            case measure => simp [intOf]; omega
          · have HY := Lib.hid (pairsJ_no (Q := Q0) e1)
            have HE := Lib.hid e1
            clear e1
            go_wp2_with fail
            refine (joined_ok A B n n ca cb bx k j L R _ (hL.up hb) (hR.up hb) (hbx.up hb) hlt (by omega) rfl).mono ?_
            rintro e w2 ⟨rfl, q, hq⟩
            rw [HE.out]
            have hown2 : OwnI w2 w.heap.size (some ⟨w.heap.size + 1, 0, none⟩) n n (ints (pairsJ (meets L R) Q0 k j)) := by rw [hq]; exact hown.drewN q
            have hb42 : Blk w2 w.heap.size 26 #[.int .i64 0, .slice none 0 0] := by rw [hq]; exact hb4.drewN q
            have hb52 : Blk w2 (w.heap.size + 2) 26 #[.int .i64 n, .slice (some ⟨w.heap.size + 1, 0, none⟩) n n] := by rw [hq]; exact hb5.drewN q
            have hbb : Below w.heap.size w w2 := by rw [hq]; exact below_drewN hb q
            clear hq
            go_wp2
            go_roundw
            case rel => exact ⟨j + 1, by omega, by go_num, by rw [HY.out]; exact hown2, hb42, hb52, hbb⟩
            case measure => simp [intOf]; omega
        · obtain rfl : j = k := by omega
          go_wp2
          go_roundw
          case rel => exact ⟨j + 1, by omega, by go_num, by rw [HN.out]; exact hown, hb4, hb5, hb⟩
          case measure => simp [intOf]; omega
    · obtain rfl : k = n := by omega
      have hyb := hb5.two
      have f0 := hb4.frozen 0
      have f1 := hb4.frozen 1
      have hy4 := hb4.two
      have hfin := ((hb4.set_ 0 (.int .i64 k)).set_ 1 (.slice (some ⟨w.heap.size + 1, 0, none⟩) k k)).two
      have hof := (hown.other_store (i := 0) hb4 (by decide) (.int .i64 k)).other_store (i := 1) (hb4.set_ 0 (.int .i64 k)) (by decide) (.slice (some ⟨w.heap.size + 1, 0, none⟩) k k)
      have hbf := (hb.setCell (p := ⟨w.heap.size, 0, none⟩) (Nat.le_refl _) (.int .i64 k)).setCell (p := ⟨w.heap.size, 1, none⟩) (Nat.le_refl _) (.slice (some ⟨w.heap.size + 1, 0, none⟩) k k)
      go_wp2
      generalize (wo.setCell ⟨w.heap.size, 0, none⟩ (.int .i64 k)).setCell ⟨w.heap.size, 1, none⟩ (.slice (some ⟨w.heap.size + 1, 0, none⟩) k k) = Wf at hfin hof hbf ⊢
      refine bodyPost_ret (v := .agg #[.int .i64 k, .slice (some ⟨w.heap.size + 1, 0, none⟩) k k]) ?_ rfl ?_
      · simp [results, Tryz.results134, go_sem, hfin]
      exact ⟨_, _, rfl, hof, hbf⟩
set_option maxRecDepth 100000 in
set_option maxHeartbeats 2000000 in
theorem implGraphOfIntervals_any (A B : Option Addr) (n m ca cb : Nat) (L R : List Int) (w : World) (hL : RI w A n L) (hR : RI w B m R) (hn : n ≤ 1048576) (hm : m ≤ 1048576) :
    Calls Tryz.prog 76 #[.agg #[.slice A n ca, .slice B m cb]] w (GivesGB (goiNum L R) (goiRows L R) (isModel L R) w) := by
  have HL := Lib.hid hL.1
  have HR2 := Lib.hid hR.1
  rcases Bool.eq_false_or_eq_true (isModel L R) with hg | hg
  rotate_left
  · have Hg := Lib.hid hg
    have HR := Lib.hid (goi_no hg)
    clear hg
    rw [HR.out.1, HR.out.2]
    go_enter Tryz.func76, Tryz.ntmps76
    go_wp2_with fail
    refine (implIsModel_any A B n m ca cb L R _ (hL.up (by go_grown)) (hR.up (by go_grown)) hn hm).mono ?_
    rintro e w1 ⟨rfl, hb1⟩
    have hU1 : Up w w1 := Up.then_ (by go_grown) hb1
    have hbr := (Blk.new_at (w := w.alloc (.cells #[.slice A n ca, .slice B m cb] 31)) (t := 26) (cs := #[.int .i64 0, .slice none 0 0]) (g := w.heap.size + 1) (by simp)).up hb1
    have f0 := hbr.frozen 0
    have f1 := hbr.frozen 1
    have hyb := hbr.two
    have hfin := ((hbr.set_ 0 (.int .i64 0)).set_ 1 (.slice none 0 0)).two
    have hbf := (hU1.setCell (p := ⟨w.heap.size + 1, 0, none⟩) (by simp) (.int .i64 0)).setCell (p := ⟨w.heap.size + 1, 1, none⟩) (by simp) (.slice none 0 0)
    rw [Hg.out]
    go_wp2
    generalize (w1.setCell ⟨w.heap.size + 1, 0, none⟩ (.int .i64 0)).setCell ⟨w.heap.size + 1, 1, none⟩ (.slice none 0 0) = Wf at hfin hbf ⊢
    refine bodyPost_ret (v := .tuple #[.agg #[.int .i64 0, .slice none 0 0], .bool false]) ?_ rfl ?_
    · simp [results, Tryz.results76, go_sem, hfin]
    exact ⟨none, 0, by rw [Hg.out]; rfl, OwnI.nil_ _ _, hbf⟩
  · have sp := isModel_spec hg
    have Hg := Lib.hid hg
    have HR := Lib.hid (goi_ok hg)
    have h1 : 1 ≤ n := by have := HL.out; omega
    have h7 : n ≤ 7 := by have := HL.out; omega
    obtain rfl : n = m := by have := HL.out; have := HR2.out; omega
    have Hn := Lib.hid (show L.length = n from HL.out)
    clear hg sp
    rw [HR.out.1, HR.out.2]
    go_enter Tryz.func76, Tryz.ntmps76
    go_wp2_with fail
    refine (implIsModel_any A B n n ca cb L R _ (hL.up (by go_grown)) (hR.up (by go_grown)) hn hm).mono ?_
    rintro e w1 ⟨rfl, hb1⟩
    have hU1 : Up w w1 := Up.then_ (by go_grown) hb1
    replace hL := hL.up hU1
    replace hR := hR.up hU1
    have hbx := ((Blk.new w 31 #[.slice A n ca, .slice B n cb]).alloc (.cells #[.int .i64 0, .slice none 0 0] 26)).up hb1
    have hbr := (Blk.new_at (w := w.alloc (.cells #[.slice A n ca, .slice B n cb] 31)) (t := 26) (cs := #[.int .i64 0, .slice none 0 0]) (g := w.heap.size + 1) (by simp)).up hb1
    have yhbx := hbx.two
    have lhbx := hbx.lt
    have yhbr := hbr.two
    have lhbr := hbr.lt
    rw [Hg.out]
    go_wp2_with fail
    refine (graphOf_ok A B n ca cb w.heap.size L R _ hL hR hbx h1 h7).mono ?_
    rintro e w2 ⟨g, d, rfl, hown, hb2⟩
    have hU2 : Up w1 w2 := Up.then_ (by go_grown) hb2
    replace hL := hL.up hU2
    replace hR := hR.up hU2
    replace hbx := hbx.up hU2
    replace hbr := hbr.up hU2
    replace yhbx := hbx.two
    replace lhbx := hbx.lt
    replace yhbr := hbr.two
    replace lhbr := hbr.lt
    have f0 := hbr.frozen 0
    have f1 := hbr.frozen 1
    have hw2 := Up.then_ hU1 hU2
    have hfin := ((hbr.set_ 0 (.int .i64 n)).set_ 1 (.slice (some ⟨g, 0, none⟩) n d)).two
    have hof := (hown.other_store (i := 0) hbr (by decide) (.int .i64 n)).other_store (i := 1) (hbr.set_ 0 (.int .i64 n)) (by decide) (.slice (some ⟨g, 0, none⟩) n d)
    have hbf := (hw2.setCell (p := ⟨w.heap.size + 1, 0, none⟩) (by simp) (.int .i64 n)).setCell (p := ⟨w.heap.size + 1, 1, none⟩) (by simp) (.slice (some ⟨g, 0, none⟩) n d)
    go_wp2
    generalize (w2.setCell ⟨w.heap.size + 1, 0, none⟩ (.int .i64 n)).setCell ⟨w.heap.size + 1, 1, none⟩ (.slice (some ⟨g, 0, none⟩) n d) = Wf at hfin hof hbf ⊢
    refine bodyPost_ret (v := .tuple #[.agg #[.int .i64 n, .slice (some ⟨g, 0, none⟩) n d], .bool true]) ?_ rfl ?_
    · simp [results, Tryz.results76, go_sem, hfin]
    have e : graphRows L R = graphJ (meets L R) n n := by rw [graphRows, Hn.out]
    rw [Hg.out, e, Hn.out]
    exact givesGB_of (by rw [(graphJ_ok (J := meets L R) h1 h7 n (Nat.le_refl _)).1.len]) hof hU1.size hbf
set_option maxRecDepth 100000 in
set_option maxHeartbeats 2000000 in
theorem specGraphOfIntervals_any (A B : Option Addr) (n m ca cb : Nat) (L R : List Int) (w : World) (hL : RI w A n L) (hR : RI w B m R) (hn : n ≤ 1048576) (hm : m ≤ 1048576) :
    Calls Tryz.prog 121 #[.agg #[.slice A n ca, .slice B m cb]] w (GivesGB (goiNum L R) (goiRows L R) (isModel L R) w) := by
  have HL := Lib.hid hL.1
  have HR2 := Lib.hid hR.1
  rcases Bool.eq_false_or_eq_true (isModel L R) with hg | hg
  rotate_left
  · have Hg := Lib.hid hg
    have HR := Lib.hid (goi_no hg)
    clear hg
    rw [HR.out.1, HR.out.2]
    go_enter Tryz.func121, Tryz.ntmps121
    go_wp2_with fail
    refine (specIsModel_any A B n m ca cb L R _ (hL.up (by go_grown)) (hR.up (by go_grown)) hn hm).mono ?_
    rintro e w1 ⟨rfl, hb1⟩
    have hU1 : Up w w1 := Up.then_ (by go_grown) hb1
    have hbr := (Blk.new_at (w := w.alloc (.cells #[.slice A n ca, .slice B m cb] 31)) (t := 26) (cs := #[.int .i64 0, .slice none 0 0]) (g := w.heap.size + 1) (by simp)).up hb1
    have f0 := hbr.frozen 0
    have f1 := hbr.frozen 1
    have hyb := hbr.two
    have hfin := ((hbr.set_ 0 (.int .i64 0)).set_ 1 (.slice none 0 0)).two
    have hbf := (hU1.setCell (p := ⟨w.heap.size + 1, 0, none⟩) (by simp) (.int .i64 0)).setCell (p := ⟨w.heap.size + 1, 1, none⟩) (by simp) (.slice none 0 0)
    rw [Hg.out]
    go_wp2
    generalize (w1.setCell ⟨w.heap.size + 1, 0, none⟩ (.int .i64 0)).setCell ⟨w.heap.size + 1, 1, none⟩ (.slice none 0 0) = Wf at hfin hbf ⊢
    refine bodyPost_ret (v := .tuple #[.agg #[.int .i64 0, .slice none 0 0], .bool false]) ?_ rfl ?_
    · simp [results, Tryz.results121, go_sem, hfin]
    exact ⟨none, 0, by rw [Hg.out]; rfl, OwnI.nil_ _ _, hbf⟩
  · have sp := isModel_spec hg
    have Hg := Lib.hid hg
    have HR := Lib.hid (goi_ok hg)
    have h1 : 1 ≤ n := by have := HL.out; omega
    have h7 : n ≤ 7 := by have := HL.out; omega
    obtain rfl : n = m := by have := HL.out; have := HR2.out; omega
    have Hn := Lib.hid (show L.length = n from HL.out)
    clear hg sp
    rw [HR.out.1, HR.out.2]
    go_enter Tryz.func121, Tryz.ntmps121
    go_wp2_with fail
    refine (specIsModel_any A B n n ca cb L R _ (hL.up (by go_grown)) (hR.up (by go_grown)) hn hm).mono ?_
    rintro e w1 ⟨rfl, hb1⟩
    have hU1 : Up w w1 := Up.then_ (by go_grown) hb1
    replace hL := hL.up hU1
    replace hR := hR.up hU1
    have hbx := ((Blk.new w 31 #[.slice A n ca, .slice B n cb]).alloc (.cells #[.int .i64 0, .slice none 0 0] 26)).up hb1
    have hbr := (Blk.new_at (w := w.alloc (.cells #[.slice A n ca, .slice B n cb] 31)) (t := 26) (cs := #[.int .i64 0, .slice none 0 0]) (g := w.heap.size + 1) (by simp)).up hb1
    have yhbx := hbx.two
    have lhbx := hbx.lt
    have yhbr := hbr.two
    have lhbr := hbr.lt
    have hX0 : Up w w1 := hU1
    have hmk := make_ints n (by omega)
    rw [Hg.out]
    have hown0 : OwnI ((w1.alloc (.cells (zeros n) 3)).alloc (.cells #[.int .i64 n, .slice (some ⟨w1.heap.size, 0, none⟩) n n] 26)) w1.heap.size (some ⟨w1.heap.size, 0, none⟩) n n (ints (graphJ (meets L R) n 0)) := by
      have hgn := ((Blk.new w1 3 (natCells (List.replicate n 0))).alloc (.cells #[.int .i64 n, .slice (some ⟨w1.heap.size, 0, none⟩) n n] 26)).own (base := w1.heap.size) (n := n) (Nat.le_refl _) (by rw [natCells_size]; simp) (by unfold maxLen; omega)
      rw [natCells_zero] at hgn
      have e : (zeros n).toList = (ints (graphJ (meets L R) n 0)).map (Value.int .i64) := by rw [← natCells_zero]; simp [natCells, graphJ]
      rw [e] at hgn
      exact hgn
    have hb5 := Blk.new_at (w := w1.alloc (.cells (zeros n) 3)) (t := 26) (cs := #[.int .i64 n, .slice (some ⟨w1.heap.size, 0, none⟩) n n]) (g := w1.heap.size + 1) (by simp)
    go_wp2_with fail
    clear hmk
    go_loopw [6] (fun i wr => ∃ (k g d : Nat), k ≤ n ∧ i = .int .i64 k ∧ OwnI wr w1.heap.size (some ⟨g, 0, none⟩) n d (ints (graphJ (meets L R) n k)) ∧ Blk wr (w1.heap.size + 1) 26 #[.int .i64 n, .slice (some ⟨g, 0, none⟩) n d] ∧ Below w1.heap.size w1 wr) (fun i _ => n - (intOf i).toNat)
    case atStart => exact ⟨0, _, _, Nat.zero_le _, rfl, hown0, hb5, by go_grown⟩
    case round =>
      clear hown0 hb5
      obtain ⟨k, g, d, hk, rfl, hown, hb5, hb⟩ := hrel
      obtain ⟨wo, rfl⟩ : ∃ wo : World, wo = wr := ⟨_, rfl⟩
      by_cases hlt : k < n
      · have HG := Lib.hid (graphJ_ok (J := meets L R) h1 h7 k (by omega))
        have HN := Lib.hid (show graphJ (meets L R) n (k + 1) = pairsJ (meets L R) (graphJ (meets L R) n k) k k from rfl)
        obtain ⟨Q0, hQ0⟩ : ∃ Q0, Q0 = graphJ (meets L R) n k := ⟨_, rfl⟩
        rw [← hQ0] at hown HG HN
        clear hQ0
        have hp0 : pairsJ (meets L R) Q0 k 0 = Q0 := rfl
        rw [← hp0] at hown
        clear hp0
        go_wp2_with fail
        go_loopw [7] (fun i wr => ∃ (j g d : Nat), j ≤ k ∧ i = .int .i64 j ∧ OwnI wr w1.heap.size (some ⟨g, 0, none⟩) n d (ints (pairsJ (meets L R) Q0 k j)) ∧ Blk wr (w1.heap.size + 1) 26 #[.int .i64 n, .slice (some ⟨g, 0, none⟩) n d] ∧ Below w1.heap.size w1 wr) (fun i _ => k - (intOf i).toNat)
        case atStart => exact ⟨0, _, _, Nat.zero_le _, rfl, hown, hb5, hb⟩
        case round =>
          clear hown hb5 hb
          obtain ⟨j, g, d, hj, rfl, hown, hb5, hb⟩ := hrel
          obtain ⟨wi, rfl⟩ : ∃ wi : World, wi = wr := ⟨_, rfl⟩
          have yhbx2 := (hbx.up hb).two
          by_cases hjt : j < k
          · have HP := Lib.hid (pairsJ_ok (J := meets L R) HG.out hlt j hj)
            obtain ⟨a, hA, _, hcl⟩ := (hL.up hb).addr (show 0 < n by omega)
            obtain ⟨b, hB, _, hcr⟩ := (hR.up hb).addr (show 0 < n by omega)
            subst hA hB
            have c1 := hcl k hlt
            have c2 := hcl j (by omega)
            have c3 := hcr k hlt
            have c4 := hcr j (by omega)
            clear hcl hcr
            by_cases e1 : L.getD k 0 ≤ R.getD j 0
            · have d1 : decide (L[k]?.getD 0 ≤ R[j]?.getD 0) = true := by simpa using e1
              by_cases e2 : L.getD j 0 ≤ R.getD k 0
              · have d2 : decide (L[j]?.getD 0 ≤ R[k]?.getD 0) = true := by simpa using e2
                have HY := Lib.hid (pairsJ_yes (Q := Q0) (show meets L R k j = true by rw [meets, decide_eq_true e1, decide_eq_true e2]; rfl))
                clear e1 e2
                obtain ⟨Q1, hQ1⟩ : ∃ Q1, Q1 = pairsJ (meets L R) Q0 k j := ⟨_, rfl⟩
                rw [← hQ1] at hown HP HY
                clear hQ1
                go_wp2_with fail
                go_quiet (fail)
                have yhb5 := hb5.two
                go_wp2_with fail
                refine ((addEdge_ok ⟨g, 0, none⟩ n d k j Q1 _ (hown.drewN _).ri HP.out.1 hlt (by omega) (by omega)).mono fun e w' hg => hg.out (by rw [addE_len, HP.out.1.len]) (by omega)).mono ?_
                rintro e w3 ⟨g', d', rfl, hown3, hb3⟩
                have hb53 := (hb5.drewN _).up hb3
                have hw3 := Up.then_ (below_drewN hb _) hb3
                replace hown3 := hown3.more (base' := w1.heap.size) hb.size
                rw [← HY.out] at hown3
                clear yhb5 yhbx2
                have hyb := hb53.two
                have f0 := hb53.frozen 0
                have f1 := hb53.frozen 1
                go_wp2
                go_roundw
                case rel => exact ⟨j + 1, g', d', by omega, by go_num, (hown3.other_store (i := 0) hb53 (by decide) (.int .i64 n)).other_store (i := 1) (hb53.set_ 0 (.int .i64 n)) (by decide) (.slice (some ⟨g', 0, none⟩) n d'), (hb53.set_ 0 (.int .i64 n)).set_ 1 (.slice (some ⟨g', 0, none⟩) n d'), (hw3.setCell (p := ⟨w1.heap.size + 1, 0, none⟩) (by simp) (.int .i64 n)).setCell (p := ⟨w1.heap.size + 1, 1, none⟩) (by simp) (.slice (some ⟨g', 0, none⟩) n d')⟩
                case measure => simp [intOf]; omega
              · have d2 : decide (L[j]?.getD 0 ≤ R[k]?.getD 0) = false := by simpa using e2
                have HY := Lib.hid (pairsJ_no (Q := Q0) (show meets L R k j = false by rw [meets, decide_eq_false e2, Bool.and_false]))
                clear e1 e2
                go_wp2_with fail
                go_quiet (fail)
                go_wp2
                go_roundw
                case rel => exact ⟨j + 1, g, d, by omega, by go_num, by rw [HY.out]; exact hown.drewN _, hb5.drewN _, below_drewN hb _⟩
                case measure => simp [intOf]; omega
            · have d1 : decide (L[k]?.getD 0 ≤ R[j]?.getD 0) = false := by simpa using e1
              have HY := Lib.hid (pairsJ_no (Q := Q0) (show meets L R k j = false by rw [meets, decide_eq_false e1, Bool.false_and]))
              clear e1
              go_wp2_with fail
              go_quiet (fail)
              go_wp2
              go_roundw
              case rel => exact ⟨j + 1, g, d, by omega, by go_num, by rw [HY.out]; exact hown.drewN _, hb5.drewN _, below_drewN hb _⟩
              case measure => simp [intOf]; omega
          · obtain rfl : j = k := by omega
            go_wp2
            go_roundw
            case rel => exact ⟨j + 1, g, d, by omega, by go_num, by rw [HN.out]; exact hown, hb5, hb⟩
            case measure => simp [intOf]; omega
      · obtain rfl : k = n := by omega
        have hbr2 := hbr.up hb
        have hyb := hb5.two
        have hyr := hbr2.two
        have hlr := hbr2.lt
        have f0 := hbr2.frozen 0
        have f1 := hbr2.frozen 1
        have hw2 := Up.then_ hU1 hb
        have hfin := ((hbr2.set_ 0 (.int .i64 k)).set_ 1 (.slice (some ⟨g, 0, none⟩) k d)).two
        have hof := (hown.other_store (i := 0) hbr2 (by decide) (.int .i64 k)).other_store (i := 1) (hbr2.set_ 0 (.int .i64 k)) (by decide) (.slice (some ⟨g, 0, none⟩) k d)
        have hbf := (hw2.setCell (p := ⟨w.heap.size + 1, 0, none⟩) (by simp) (.int .i64 k)).setCell (p := ⟨w.heap.size + 1, 1, none⟩) (by simp) (.slice (some ⟨g, 0, none⟩) k d)
        go_wp2
        generalize (wo.setCell ⟨w.heap.size + 1, 0, none⟩ (.int .i64 k)).setCell ⟨w.heap.size + 1, 1, none⟩ (.slice (some ⟨g, 0, none⟩) k d) = Wf at hfin hof hbf ⊢
        refine bodyPost_ret (v := .tuple #[.agg #[.int .i64 k, .slice (some ⟨g, 0, none⟩) k d], .bool true]) ?_ rfl ?_
        · simp [results, Tryz.results121, go_sem, hfin]
        have e : graphRows L R = graphJ (meets L R) k k := by rw [graphRows, Hn.out]
        rw [Hg.out, e, Hn.out]
        exact givesGB_of (by rw [(graphJ_ok (J := meets L R) h1 h7 k (Nat.le_refl _)).1.len]) hof hU1.size hbf
end Go.Proofs.YthncdjcmlpiebaaGreat
namespace Go.Proofs.YthncdjcmlpiebaaGreat
open Go.RowKit
set_option maxRecDepth 100000 in
theorem goiRows_le6 {L R : List Int} (h : L.length ≤ 6) : (goiRows L R).length ≤ 6 := by
  rcases Bool.eq_false_or_eq_true (isModel L R) with e | e
  · rw [(goi_ok e).2, ints_len, (graphRows_ok e).len]; exact h
  · rw [(goi_no e).2]; simp
set_option maxRecDepth 100000 in
set_option maxHeartbeats 4000000 in
theorem l10Graph_any {g : Nat} {B : Option Addr} {n c : Nat} {bs : List Int} {w : World} (hC : Cur w g B n c bs) :
    Calls Tryz.prog 88 #[.pointer (some ⟨g, 0, none⟩)] w (Dr g B n c bs w fun v w' => Gv le6 w.heap.size v w') := by
  have hlow := hC.lt
  have hU0 : Up w (w.alloc (.cells #[.int .i64 0, .slice none 0 0] 26)) := by go_grown
  have hR0 := Blk.new w 26 #[.int .i64 0, .slice none 0 0]
  have hC0 := hC.up hU0
  have hg0 := gb_of_up (some g) hU0
  obtain ⟨gr, hgr⟩ : ∃ gr, gr = w.heap.size := ⟨_, rfl⟩
  go_enter Tryz.func88, Tryz.ntmps88
  go_wp2_with fail
  refine (l1Once_any hC0 2 (by omega) (by omega)).mono ?_
  rintro e w1 ⟨v, rfl, ⟨b, rfl⟩, hC1, hg1⟩
  have hs1 := hg1.size
  try simp only [World.size_alloc] at hs1
  have hR1 := hR0.grown hg1 (fun e => by injection e with e; omega)
  have hG1 := gb_trans hg0 hg1
  rw [← hgr] at hR1 ⊢
  have hgr' : w.heap.size ≤ gr := by omega
  have hgl1 : gr < w1.heap.size := hR1.lt
  clear hR0 hC0 hg0 hg1 hU0 hC hgr
  cases b
  · go_wp2_with fail
    refine (l9Model_any hC1).mono ?_
    rintro e w2 ⟨v, rfl, ⟨A, na, ca, C, nc, cc, L, R, rfl, ha, hb, hna, hnc⟩, hC2, hg2⟩
    have hR2 := hR1.grown hg2 (fun e => by injection e with e; omega)
    have hG2 := gb_trans hG1 hg2
    have hs2 := hg2.size
    clear hR1 hG1 hC1 hg2
    go_wp2_with fail
    refine (specGraphOfIntervals_any A C na nc ca cc L R w2 ha.1 hb.1 (by omega) (by omega)).mono ?_
    rintro e w3 ⟨A3, c3, rfl, hO3, hb3⟩
    have hle := goiRows_le6 (L := L) (R := R) (by rw [ha.1.1]; exact hna)
    obtain ⟨N, hN⟩ : ∃ N, N = goiNum L R := ⟨_, rfl⟩
    obtain ⟨X, hX⟩ : ∃ X, X = goiRows L R := ⟨_, rfl⟩
    obtain ⟨bm, hbm⟩ : ∃ bm, bm = isModel L R := ⟨_, rfl⟩
    rw [← hX] at hO3 hle
    rw [← hN, ← hX, ← hbm]
    clear hN hX hbm ha hb
    have hs3 := hb3.size
    have hU3 : Up w3 (w3.alloc (.cells #[.int .i64 N, .slice A3 X.length c3] 26)) := by go_grown
    have I : GX w g B n c bs gr w3.heap.size N A3 X.length c3 X (w3.alloc (.cells #[.int .i64 N, .slice A3 X.length c3] 26)) :=
      ⟨(hC2.up hb3).up hU3, (hR2.up hb3).up hU3, Blk.new _ _ _, (hO3.more (by omega)).up hU3, gb_up (gb_up hG2 hb3) hU3, hlow, hgr', by omega, by omega⟩
    clear hC2 hR2 hO3 hG2 hb3 hU3
    obtain ⟨gb, hgb⟩ : ∃ gb, gb = w3.heap.size := ⟨_, rfl⟩
    rw [← hgb] at I
    have hy := I.box.two
    have hf0 := I.res.frozen 0
    have hf1 := I.res.frozen 1
    have hyr := I.res.two
    obtain ⟨f1, hfin⟩ := I.fin (P := le6) hle
    clear I
    go_wp2_with fail
    rw [← hgb]
    generalize ((w3.alloc (.cells #[.int .i64 N, .slice A3 X.length c3] 26)).setCell ⟨gr, 0, none⟩ (.int .i64 N)).setCell ⟨gr, 1, none⟩ (.slice A3 X.length c3) = Wf at f1 hfin ⊢
    refine bodyPost_ret (v := .agg #[.int .i64 N, .slice A3 X.length c3]) ?_ rfl ?_
    · simp [results, Tryz.results88, go_sem, hfin]
    exact f1
  · go_wp2_with fail
    refine (l8Chordal_any hC1).mono ?_
    rintro e w2 ⟨v, rfl, ⟨N, A, m, d, X, rfl, ho, hX⟩, hC2, hg2⟩
    have hR2 := hR1.grown hg2 (fun e => by injection e with e; omega)
    have hG2 := gb_trans hG1 hg2
    have ho2 := ho.more (base' := w.heap.size) (by omega)
    have hyr := hR2.two
    have hf0 := hR2.frozen 0
    have hf1 := hR2.frozen 1
    obtain ⟨f1, hfin⟩ := finG (N := N) (P := le6) hR2 ho2 hX hC2 hG2 hgr' hlow
    clear hR2 ho2 ho hC2 hG2 hR1 hC1 hg2 hG1
    go_wp2
    generalize (w2.setCell ⟨gr, 0, none⟩ (.int .i64 N)).setCell ⟨gr, 1, none⟩ (.slice A m d) = Wf at f1 hfin ⊢
    refine bodyPost_ret (v := .agg #[.int .i64 N, .slice A m d]) ?_ rfl ?_
    · simp [results, Tryz.results88, go_sem, hfin]
    exact f1
end Go.Proofs.YthncdjcmlpiebaaGreat
namespace Go.Proofs.YthncdjcmlpiebaaGreat
/-- A vertex more, joined to the vertices of c. -/
def extG (Q : List Nat) (k c : Nat) : List Nat := (Q.mapIdx fun j r => if c.testBit j then r ||| 2 ^ k else r) ++ [c]
/-- Left ends' order, one vertex more at a time: S are those placed, O those whose interval has not ended. -/
def ivS (Q : List Nat) (n : Nat) : Nat → Nat → Nat → Bool
  | 0, _, _ => true
  | f + 1, S, O => (List.range n).any fun v => !S.testBit v && (dif (nb Q v &&& S) O == 0) && ivS Q n f (S ||| 2 ^ v) ((O &&& nb Q v) ||| 2 ^ v)
def atP3 (Q : List Nat) (n a b c : Nat) : Bool := (awayS Q n c).testBit a && (awayS Q n c).testBit b && (grow Q (awayS Q n c) (2 ^ b) n).testBit a
def trip3 (Q : List Nat) (n : Nat) : Bool := (List.range n).any fun a => (List.range n).any fun b => decide (a < b) && (List.range n).any fun c => decide (b < c) && (atP3 Q n a b c && atP3 Q n b c a && atP3 Q n c a b)
/-- An umbrella order, one vertex more at a time: o are those placed, newest first. -/
def umS (Q : List Nat) (n : Nat) : Nat → List Nat → Nat → Nat → Bool
  | 0, _, _, _ => true
  | f + 1, o, S, O => (List.range n).any fun v => !S.testBit v && (dif (nb Q v &&& S) O == 0) && (o.dropWhile fun u => (nb Q v).testBit u).all (fun u => !(nb Q v).testBit u) && umS Q n f (v :: o) (S ||| 2 ^ v) ((O &&& nb Q v) ||| 2 ^ v)
def clawS (Q : List Nat) (n : Nat) : Bool := (List.range n).any fun c => (List.range n).any fun x => (nb Q c).testBit x && (List.range x).any fun y => (nb Q c).testBit y && !(nb Q x).testBit y && (List.range y).any fun z => (nb Q c).testBit z && !(nb Q x).testBit z && !(nb Q y).testBit z
/-- All that can come of Q by f vertices more. -/
def allX (P : List Nat → Nat → Bool) : Nat → Nat → List Nat → Bool
  | 0, k, Q => P Q k
  | f + 1, k, Q => (List.range (2 ^ k)).all fun c => !clq Q c || allX P f (k + 1) (extG Q k c)
/-- All graphs that come of Q by f vertices more. -/
def leaves : Nat → Nat → List Nat → List (List Nat)
  | 0, _, Q => [Q]
  | f + 1, k, Q => (List.range (2 ^ k)).flatMap fun c => if clq Q c then leaves f (k + 1) (extG Q k c) else []
theorem allX_leaves (P : List Nat → Nat → Bool) (g : Nat) : ∀ f k Q, (∀ R ∈ leaves f k Q, allX P g (k + f) R = true) → allX P (f + g) k Q = true
  | 0, k, Q, h => by
    have := h Q (List.mem_cons_self ..)
    rw [Nat.zero_add]
    exact this
  | f + 1, k, Q, h => by
    rw [show f + 1 + g = (f + g) + 1 by omega, allX, List.all_eq_true]
    intro c hc
    by_cases hq : clq Q c = true
    · rw [hq, Bool.not_true, Bool.false_or]
      refine allX_leaves P g f (k + 1) _ fun R hR => ?_
      rw [show k + 1 + f = k + (f + 1) by omega]
      refine h R ?_
      rw [leaves, List.mem_flatMap]
      exact ⟨c, hc, by rw [if_pos hq]; exact hR⟩
    · rw [Bool.eq_false_iff.mpr hq, Bool.not_false, Bool.true_or]
theorem all_chunks {α : Type} (P : α → Bool) (l : List α) (m : Nat) (h : ∀ i, i ≤ l.length / m → ((l.drop (m * i)).take m).all P = true) (hm : 0 < m) : ∀ x ∈ l, P x = true := by
  intro x hx
  obtain ⟨j, hj, rfl⟩ := List.mem_iff_getElem.mp hx
  have h1 := h (j / m) (Nat.div_le_div_right (Nat.le_of_lt hj))
  rw [List.all_eq_true] at h1
  refine h1 _ (List.mem_iff_getElem.mpr ⟨j % m, ?_, ?_⟩)
  · rw [List.length_take, List.length_drop]
    have := Nat.mod_lt j hm
    have := Nat.div_add_mod j m
    omega
  · rw [List.getElem_take, List.getElem_drop]
    congr 1
    exact Nat.div_add_mod j m
end Go.Proofs.YthncdjcmlpiebaaGreat
namespace Go.Proofs.YthncdjcmlpiebaaGreat
def chk2 (Q : List Nat) (n : Nat) : Bool := (bif clawS Q n then ivS Q n n 0 0 else umS Q n n [] 0 0) || trip3 Q n
set_option maxRecDepth 100000 in
theorem chk6_0 : (((leaves 4 0 []).drop (4 * 0)).take 4).all (fun R => allX chk2 2 4 R) = true := by decide +kernel
set_option maxRecDepth 100000 in
theorem chk6_1 : (((leaves 4 0 []).drop (4 * 1)).take 4).all (fun R => allX chk2 2 4 R) = true := by decide +kernel
set_option maxRecDepth 100000 in
theorem chk6_2 : (((leaves 4 0 []).drop (4 * 2)).take 4).all (fun R => allX chk2 2 4 R) = true := by decide +kernel
set_option maxRecDepth 100000 in
theorem chk6_3 : (((leaves 4 0 []).drop (4 * 3)).take 4).all (fun R => allX chk2 2 4 R) = true := by decide +kernel
set_option maxRecDepth 100000 in
theorem chk6_4 : (((leaves 4 0 []).drop (4 * 4)).take 4).all (fun R => allX chk2 2 4 R) = true := by decide +kernel
set_option maxRecDepth 100000 in
theorem chk6_5 : (((leaves 4 0 []).drop (4 * 5)).take 4).all (fun R => allX chk2 2 4 R) = true := by decide +kernel
set_option maxRecDepth 100000 in
theorem chk6_6 : (((leaves 4 0 []).drop (4 * 6)).take 4).all (fun R => allX chk2 2 4 R) = true := by decide +kernel
set_option maxRecDepth 100000 in
theorem chk6_7 : (((leaves 4 0 []).drop (4 * 7)).take 4).all (fun R => allX chk2 2 4 R) = true := by decide +kernel
set_option maxRecDepth 100000 in
theorem chk6_8 : (((leaves 4 0 []).drop (4 * 8)).take 4).all (fun R => allX chk2 2 4 R) = true := by decide +kernel
set_option maxRecDepth 100000 in
theorem chk6_9 : (((leaves 4 0 []).drop (4 * 9)).take 4).all (fun R => allX chk2 2 4 R) = true := by decide +kernel
set_option maxRecDepth 100000 in
theorem leaves_len : (leaves 4 0 []).length = 39 := by decide +kernel
theorem chk_6 : allX chk2 6 0 [] = true := by
  refine allX_leaves chk2 2 4 0 [] (all_chunks _ _ 4 (fun i hi => ?_) (by decide))
  rw [leaves_len] at hi
  have : i = 0 ∨ i = 1 ∨ i = 2 ∨ i = 3 ∨ i = 4 ∨ i = 5 ∨ i = 6 ∨ i = 7 ∨ i = 8 ∨ i = 9 := by omega
  rcases this with h | h | h | h | h | h | h | h | h | h <;> rw [h]
  · exact chk6_0
  · exact chk6_1
  · exact chk6_2
  · exact chk6_3
  · exact chk6_4
  · exact chk6_5
  · exact chk6_6
  · exact chk6_7
  · exact chk6_8
  · exact chk6_9
set_option maxRecDepth 100000 in
theorem chk_0 : allX chk2 0 0 [] = true := by decide +kernel
set_option maxRecDepth 100000 in
theorem chk_1 : allX chk2 1 0 [] = true := by decide +kernel
set_option maxRecDepth 100000 in
theorem chk_2 : allX chk2 2 0 [] = true := by decide +kernel
set_option maxRecDepth 100000 in
theorem chk_3 : allX chk2 3 0 [] = true := by decide +kernel
set_option maxRecDepth 100000 in
theorem chk_4 : allX chk2 4 0 [] = true := by decide +kernel
set_option maxRecDepth 100000 in
theorem chk_5 : allX chk2 5 0 [] = true := by decide +kernel
theorem chk_all : ∀ k, k ≤ 6 → allX chk2 k 0 [] = true := by
  intro k hk
  have : k = 0 ∨ k = 1 ∨ k = 2 ∨ k = 3 ∨ k = 4 ∨ k = 5 ∨ k = 6 := by omega
  rcases this with h | h | h | h | h | h | h <;> rw [h]
  · exact chk_0
  · exact chk_1
  · exact chk_2
  · exact chk_3
  · exact chk_4
  · exact chk_5
  · exact chk_6
end Go.Proofs.YthncdjcmlpiebaaGreat
namespace Go.Proofs.YthncdjcmlpiebaaGreat
/-- Intervals whose meetings are the edges. -/
structure IV (n : Nat) (Q : List Nat) (a b : Nat → Int) : Prop where
  le : ∀ v, v < n → a v ≤ b v
  adj : ∀ u v, u < n → v < n → u ≠ v → (edge Q u v = true ↔ a u ≤ b v ∧ a v ≤ b u)
theorem most_of (P : Nat → Prop) (f : Nat → Int) : ∀ n, (∃ v, v < n ∧ P v) → ∃ i, i < n ∧ P i ∧ ∀ j, j < n → P j → f j ≤ f i
  | 0, ⟨v, hv, _⟩ => absurd hv (by omega)
  | n + 1, ⟨v, hv, hp⟩ => by
    by_cases hn : P n
    · by_cases he : ∃ v, v < n ∧ P v
      · obtain ⟨i, h1, h2, h3⟩ := most_of P f n he
        by_cases h4 : f i ≤ f n
        · refine ⟨n, by omega, hn, fun j hj hpj => ?_⟩
          rcases Nat.lt_succ_iff_lt_or_eq.1 hj with h' | rfl
          · have := h3 j h' hpj; omega
          · exact Int.le_refl _
        · refine ⟨i, by omega, h2, fun j hj hpj => ?_⟩
          rcases Nat.lt_succ_iff_lt_or_eq.1 hj with h' | rfl
          · exact h3 j h' hpj
          · omega
      · refine ⟨n, by omega, hn, fun j hj hpj => ?_⟩
        rcases Nat.lt_succ_iff_lt_or_eq.1 hj with h' | rfl
        · exact absurd ⟨j, h', hpj⟩ he
        · exact Int.le_refl _
    · have hvn : v < n := by
        rcases Nat.lt_succ_iff_lt_or_eq.1 hv with h' | rfl
        · exact h'
        · exact absurd hp hn
      obtain ⟨i, h1, h2, h3⟩ := most_of P f n ⟨v, hvn, hp⟩
      refine ⟨i, by omega, h2, fun j hj hpj => ?_⟩
      rcases Nat.lt_succ_iff_lt_or_eq.1 hj with h' | rfl
      · exact h3 j h' hpj
      · exact absurd hpj hn
/-- Each vertex of a hole has two neighbours on it that are no neighbours. -/
theorem hole_apart {n : Nat} {Q o : List Nat} (h : GOk n Q) (hh : HoleP n Q o) {i : Nat} (hi : i < o.length) : ∃ p q, p < o.length ∧ q < o.length ∧ nb o p ≠ nb o q ∧ edge Q (nb o i) (nb o p) = true ∧ edge Q (nb o i) (nb o q) = true ∧ edge Q (nb o p) (nb o q) = false := by
  obtain ⟨ho, h4, hj⟩ := hh
  rw [joinedP_iff] at hj
  have jn : ∀ a b, a < b → b < o.length → jHole o.length a b = true → edge Q (nb o a) (nb o b) = true := fun a b hab hb' e => by rw [hj b hb' a hab]; exact e
  have jf : ∀ a b, a < b → b < o.length → jHole o.length a b = false → edge Q (nb o a) (nb o b) = false := fun a b hab hb' e => by rw [hj b hb' a hab]; exact e
  have jt : ∀ a b, jHole o.length a b = true ↔ b = a + 1 ∨ a = 0 ∧ b + 1 = o.length := fun a b => by simp [jHole]
  have jo : ∀ a b, ¬ (b = a + 1 ∨ a = 0 ∧ b + 1 = o.length) → jHole o.length a b = false := fun a b e => Bool.eq_false_iff.2 fun k => e ((jt a b).1 k)
  have ne : ∀ a b, a < b → b < o.length → nb o a ≠ nb o b := fun a b hab hb' e => by
    have h1 := place_nb ho (show a < o.length by omega)
    have h2 := place_nb ho hb'
    rw [e] at h1
    omega
  rcases Nat.eq_zero_or_pos i with rfl | hi0
  · exact ⟨1, o.length - 1, by omega, by omega, ne _ _ (by omega) (by omega), jn 0 1 (by omega) (by omega) ((jt 0 1).2 (by omega)), jn 0 (o.length - 1) (by omega) (by omega) ((jt _ _).2 (by omega)), jf _ _ (by omega) (by omega) (jo _ _ (by omega))⟩
  · rcases Nat.lt_or_ge (i + 1) o.length with hl | hl
    · exact ⟨i - 1, i + 1, by omega, by omega, ne _ _ (by omega) (by omega), by rw [h.edge_comm]; exact jn (i - 1) i (by omega) (by omega) ((jt _ _).2 (by omega)), jn i (i + 1) (by omega) (by omega) ((jt _ _).2 (by omega)), jf _ _ (by omega) (by omega) (jo _ _ (by omega))⟩
    · exact ⟨0, i - 1, by omega, by omega, ne _ _ (by omega) (by omega), by rw [h.edge_comm]; exact jn 0 i (by omega) (by omega) ((jt _ _).2 (by omega)), by rw [h.edge_comm]; exact jn (i - 1) i (by omega) (by omega) ((jt _ _).2 (by omega)), jf _ _ (by omega) (by omega) (jo _ _ (by omega))⟩
section
variable {n : Nat} {Q : List Nat} {a b : Nat → Int}
theorem IV.no_hole (hi : IV n Q a b) (h : GOk n Q) {o : List Nat} (hh : HoleP n Q o) : False := by
  have h4 := hh.2.1
  obtain ⟨i, h1, _, h2⟩ := most_of (fun _ => True) (fun j => - b (nb o j)) o.length ⟨0, by omega, trivial⟩
  obtain ⟨p, q, hp, hq, hne, e1, e2, e3⟩ := hole_apart h hh h1
  have hv := hh.1.at_ h1
  have hvp := hh.1.at_ hp
  have hvq := hh.1.at_ hq
  have n1 : nb o i ≠ nb o p := fun e => by rw [e, edge_irr h] at e1; cases e1
  have n2 : nb o i ≠ nb o q := fun e => by rw [e, edge_irr h] at e2; cases e2
  have a1 := (hi.adj _ _ hv hvp n1).1 e1
  have a2 := (hi.adj _ _ hv hvq n2).1 e2
  have m1 := h2 p hp trivial
  have m2 := h2 q hq trivial
  have := (hi.adj _ _ hvp hvq hne).2 ⟨by omega, by omega⟩
  rw [this] at e3; cases e3
/-- The intervals at a point. -/
def atP (a b : Nat → Int) (n : Nat) (p : Int) : Nat := setN ((List.range n).filter fun v => decide (a v ≤ p) && decide (p ≤ b v))
theorem atP_bit {a b : Nat → Int} {n : Nat} {p : Int} {v : Nat} : (atP a b n p).testBit v = true ↔ v < n ∧ a v ≤ p ∧ p ≤ b v := by
  rw [atP, testBit_setN]; simp
theorem IV.clq (hi : IV n Q a b) (h : GOk n Q) (p : Int) : clq Q (atP a b n p) = true := by
  rw [clq_pairs h]
  intro u _ hu v hv hne
  obtain ⟨u1, u2, u3⟩ := atP_bit.1 hu
  obtain ⟨v1, v2, v3⟩ := atP_bit.1 hv
  exact (hi.adj u v u1 v1 fun e => hne e.symm).2 ⟨by omega, by omega⟩
end
theorem pairsJ_bits {n : Nat} {J : Nat → Nat → Bool} {Q : List Nat} (hl : Q.length = n) {i : Nat} (hi : i < n) (x y : Nat) : ∀ j, j ≤ i → (pairsJ J Q i j).length = n ∧ ((nb (pairsJ J Q i j) x).testBit y = true ↔ (nb Q x).testBit y = true ∨ ∃ k, k < j ∧ J i k = true ∧ (x = i ∧ y = k ∨ x = k ∧ y = i))
  | 0, _ => ⟨hl, by simp [pairsJ]⟩
  | j + 1, hj => by
    obtain ⟨h1, h2⟩ := pairsJ_bits (J := J) hl hi x y j (by omega)
    rcases Bool.eq_false_or_eq_true (J i j) with e | e
    · rw [pairsJ_yes e]
      refine ⟨by rw [addE_len, h1], ?_⟩
      rw [testBit_addE (by omega) (by omega) (by omega), Bool.or_eq_true, Bool.or_eq_true, h2, decide_eq_true_eq, decide_eq_true_eq]
      constructor
      · rintro (((h' | ⟨k, hk, h'⟩) | h') | h')
        · exact .inl h'
        · exact .inr ⟨k, by omega, h'⟩
        · exact .inr ⟨j, by omega, e, .inl h'⟩
        · exact .inr ⟨j, by omega, e, .inr h'⟩
      · rintro (h' | ⟨k, hk, he, h'⟩)
        · exact .inl (.inl (.inl h'))
        · rcases Nat.lt_succ_iff_lt_or_eq.1 hk with hk | rfl
          · exact .inl (.inl (.inr ⟨k, hk, he, h'⟩))
          · rcases h' with h' | h'
            · exact .inl (.inr h')
            · exact .inr h'
    · rw [pairsJ_no e]
      refine ⟨h1, h2.trans ⟨?_, ?_⟩⟩
      · rintro (h' | ⟨k, hk, h'⟩)
        · exact .inl h'
        · exact .inr ⟨k, by omega, h'⟩
      · rintro (h' | ⟨k, hk, he, h'⟩)
        · exact .inl h'
        · rcases Nat.lt_succ_iff_lt_or_eq.1 hk with hk | rfl
          · exact .inr ⟨k, hk, he, h'⟩
          · rw [e] at he; cases he
theorem graphJ_bits {n : Nat} {J : Nat → Nat → Bool} (x y : Nat) : ∀ i, i ≤ n → (graphJ J n i).length = n ∧ ((nb (graphJ J n i) x).testBit y = true ↔ ∃ u k, u < i ∧ k < u ∧ J u k = true ∧ (x = u ∧ y = k ∨ x = k ∧ y = u))
  | 0, _ => ⟨by simp [graphJ], by
    have : nb (graphJ J n 0) x = 0 := by
      unfold nb
      simp only [graphJ, List.getD_eq_getElem?_getD, List.getElem?_replicate]
      split <;> simp
    rw [this]; simp⟩
  | i + 1, hi => by
    obtain ⟨h1, h2⟩ := graphJ_bits (n := n) (J := J) x y i (by omega)
    obtain ⟨h3, h4⟩ := pairsJ_bits (J := J) h1 (show i < n by omega) x y i (Nat.le_refl _)
    rw [graphJ]
    refine ⟨h3, h4.trans ?_⟩
    rw [h2]
    constructor
    · rintro (⟨u, k, hu, h'⟩ | ⟨k, hk, h'⟩)
      · exact ⟨u, k, by omega, h'⟩
      · exact ⟨i, k, by omega, hk, h'⟩
    · rintro ⟨u, k, hu, hk, h'⟩
      rcases Nat.lt_succ_iff_lt_or_eq.1 hu with hu | rfl
      · exact .inl ⟨u, k, hu, hk, h'⟩
      · exact .inr ⟨k, hk, h'⟩
/-- The graph of a model is that of its intervals. -/
theorem graphRows_iv {L R : List Int} (h : isModel L R = true) : IV L.length (graphRows L R) (fun v => L.getD v 0) (fun v => R.getD v 0) := by
  obtain ⟨_, _, _, hm⟩ := isModel_spec h
  refine ⟨fun v hv => (mOk_iff.1 (hm v hv)).2.1, fun u v hu hv hne => ?_⟩
  rw [edge, graphRows, (graphJ_bits u v _ (Nat.le_refl _)).2]
  have e : ∀ i j, meets L R i j = true ↔ L.getD i 0 ≤ R.getD j 0 ∧ L.getD j 0 ≤ R.getD i 0 := fun i j => by simp [meets]
  constructor
  · rintro ⟨x, k, _, _, hj, ⟨rfl, rfl⟩ | ⟨rfl, rfl⟩⟩
    · exact (e _ _).1 hj
    · have := (e _ _).1 hj
      exact ⟨this.2, this.1⟩
  · intro hj
    rcases Nat.lt_or_ge v u with h' | h'
    · exact ⟨u, v, hu, h', (e _ _).2 hj, .inl ⟨rfl, rfl⟩⟩
    · exact ⟨v, u, hv, by omega, (e _ _).2 ⟨hj.2, hj.1⟩, .inr ⟨rfl, rfl⟩⟩
end Go.Proofs.YthncdjcmlpiebaaGreat
namespace Go.Proofs.YthncdjcmlpiebaaGreat
def slst (J : Nat → Nat → Bool) (x : List Nat) (i k : Nat) : Nat := if k < i then (if J k i then nb x k else nb x k + 8) else if i < k ∧ J i k = true then nb x k - 7 else 0
def stK (J : Nat → Nat → Bool) (x : List Nat) (i : Nat) : Nat → List Nat
  | 0 => x
  | k + 1 => (stK J x i k).set i (max (nb (stK J x i k) i) (slst J (stK J x i k) i k))
def stI (J : Nat → Nat → Bool) (n : Nat) (x : List Nat) : Nat → List Nat
  | 0 => x
  | i + 1 => stK J (stI J n x i) i n
def stR (J : Nat → Nat → Bool) (n : Nat) : Nat → List Nat
  | 0 => List.replicate n 0
  | r + 1 => stI J n (stR J n r) n
def upF (s : List Nat × Bool) (v l : Nat) : List Nat × Bool := if nb s.1 v < l then (s.1.set v l, true) else s
def rsA (J : Nat → Nat → Bool) (s : List Nat × Bool) (k i : Nat) : List Nat × Bool := if J i k then upF s i (nb s.1 k - 7) else upF s k (nb s.1 i + 8)
def rsB (s : List Nat × Bool) (k i : Nat) : List Nat × Bool := if i + 1 = k then upF s k (nb s.1 i) else s
def rsI (J : Nat → Nat → Bool) (s : List Nat × Bool) (k : Nat) : Nat → List Nat × Bool
  | 0 => s
  | i + 1 => rsB (rsA J (rsI J s k i) k i) k i
def rsK (J : Nat → Nat → Bool) (s : List Nat × Bool) : Nat → List Nat × Bool
  | 0 => s
  | k + 1 => rsI J (rsK J s k) k k
def rsR (J : Nat → Nat → Bool) (n : Nat) : Nat → List Nat
  | 0 => List.replicate n 0
  | r + 1 => (rsK J (rsR J n r, false) n).1
def rsF (J : Nat → Nat → Bool) (n r : Nat) : Bool := (rsK J (rsR J n r, false) n).2
def stairs (n : Nat) : Nat → List (List Nat)
  | 0 => [[]]
  | i + 1 => (stairs n i).flatMap fun s => ((List.range n).filter fun v => decide (i ≤ v) && decide ((s.getLast?.getD 0) ≤ v)).map fun v => s ++ [v]
def adjS (s : List Nat) (i k : Nat) : Bool := decide (k ≤ nb s i)
def okS (n : Nat) (s : List Nat) : Bool := (rsF (adjS s) n 3 == false) && (stR (adjS s) n 5 == stR (adjS s) n 4) && (rsR (adjS s) n 3 == stR (adjS s) n 4)
theorem mem_chunk {α : Type} {l : List α} {a : α} {b m : Nat} (hb : 0 < b) (hl : l.length ≤ b * m) (h : a ∈ l) : ∃ j, j < m ∧ a ∈ (l.drop (b * j)).take b := by
  obtain ⟨i, hi, rfl⟩ := List.mem_iff_getElem.1 h
  have h1 := Nat.div_add_mod i b
  have h2 := Nat.mod_lt i hb
  refine ⟨i / b, (Nat.div_lt_iff_lt_mul hb).2 (by rw [Nat.mul_comm m b]; omega), ?_⟩
  rw [List.mem_iff_getElem]
  refine ⟨i % b, by rw [List.length_take, List.length_drop]; omega, ?_⟩
  rw [List.getElem_take, List.getElem_drop]
  simp only [h1]
set_option maxRecDepth 100000 in
theorem ok_small : ((List.range 7).all fun n => (stairs n n).all fun s => okS n s) = true := by decide +kernel
set_option maxRecDepth 100000 in
theorem len_seven : (stairs 7 7).length = 429 := by decide +kernel
def chunk7 (j : Nat) : List (List Nat) := ((stairs 7 7).drop (36 * j)).take 36
set_option maxRecDepth 100000 in
theorem ok7_0 : ((chunk7 0).all fun s => okS 7 s) = true := by decide +kernel
set_option maxRecDepth 100000 in
theorem ok7_1 : ((chunk7 1).all fun s => okS 7 s) = true := by decide +kernel
set_option maxRecDepth 100000 in
theorem ok7_2 : ((chunk7 2).all fun s => okS 7 s) = true := by decide +kernel
set_option maxRecDepth 100000 in
theorem ok7_3 : ((chunk7 3).all fun s => okS 7 s) = true := by decide +kernel
set_option maxRecDepth 100000 in
theorem ok7_4 : ((chunk7 4).all fun s => okS 7 s) = true := by decide +kernel
set_option maxRecDepth 100000 in
theorem ok7_5 : ((chunk7 5).all fun s => okS 7 s) = true := by decide +kernel
set_option maxRecDepth 100000 in
theorem ok7_6 : ((chunk7 6).all fun s => okS 7 s) = true := by decide +kernel
set_option maxRecDepth 100000 in
theorem ok7_7 : ((chunk7 7).all fun s => okS 7 s) = true := by decide +kernel
set_option maxRecDepth 100000 in
theorem ok7_8 : ((chunk7 8).all fun s => okS 7 s) = true := by decide +kernel
set_option maxRecDepth 100000 in
theorem ok7_9 : ((chunk7 9).all fun s => okS 7 s) = true := by decide +kernel
set_option maxRecDepth 100000 in
theorem ok7_10 : ((chunk7 10).all fun s => okS 7 s) = true := by decide +kernel
set_option maxRecDepth 100000 in
theorem ok7_11 : ((chunk7 11).all fun s => okS 7 s) = true := by decide +kernel
theorem ok_seven {s : List Nat} (h : s ∈ stairs 7 7) : okS 7 s = true := by
  obtain ⟨j, hj, hm⟩ := mem_chunk (b := 36) (m := 12) (by omega) (by rw [len_seven]; omega) h
  have hc : ((chunk7 j).all fun s => okS 7 s) = true := by
    match j, hj with
    | 0, _ => exact ok7_0
    | 1, _ => exact ok7_1
    | 2, _ => exact ok7_2
    | 3, _ => exact ok7_3
    | 4, _ => exact ok7_4
    | 5, _ => exact ok7_5
    | 6, _ => exact ok7_6
    | 7, _ => exact ok7_7
    | 8, _ => exact ok7_8
    | 9, _ => exact ok7_9
    | 10, _ => exact ok7_10
    | 11, _ => exact ok7_11
  exact List.all_eq_true.1 hc s hm
theorem all_ok {n : Nat} (hn : n ≤ 7) {s : List Nat} (h : s ∈ stairs n n) : okS n s = true := by
  rcases Nat.lt_or_ge n 7 with hlt | hge
  · exact List.all_eq_true.1 (List.all_eq_true.1 ok_small n (List.mem_range.2 hlt)) s h
  · obtain rfl : n = 7 := by omega
    exact ok_seven h
end Go.Proofs.YthncdjcmlpiebaaGreat
