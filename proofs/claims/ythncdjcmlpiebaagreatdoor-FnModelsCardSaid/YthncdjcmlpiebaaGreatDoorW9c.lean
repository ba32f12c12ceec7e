/- Walks of chapter 9: the graph of intervals. -/
import Derived.Test.YthncdjcmlpiebaaGreatDoorW9
import Derived.Test.YthncdjcmlpiebaaGreatDoorW2b
import Derived.Test.YthncdjcmlpiebaaGreatDoorPurA
namespace Go.Proofs.YthncdjcmlpiebaaGreatDoor
open Go.RowKit
set_option maxRecDepth 100000 in
theorem GivesGB.out {N : Int} {n : Nat} {Q : List Nat} {b : Bool} {w : World} {e : Ending} {w' : World} (h : GivesGB N (ints Q) b w e w') (hl : Q.length = n) (h0 : 0 < n) :
    ∃ g d, e = .returned (.tuple #[.agg #[.int .i64 N, .slice (some ⟨g, 0, none⟩) n d], .bool b]) ∧ OwnI w' w.heap.size (some ⟨g, 0, none⟩) n d (ints Q) ∧ Below w.heap.size w w' := by
  obtain ⟨B, d, rfl, hown, hb⟩ := h
  have e : (ints Q).length = n := by rw [ints_len, hl]
  rw [e] at hown ⊢
  obtain ⟨g, rfl⟩ := hown.form h0
  exact ⟨g, d, rfl, hown, hb⟩
set_option maxRecDepth 100000 in
theorem i64_xor7 {a b : Nat} (ha : a < 129) (hb : b < 129) : bits .xor .i64 (a : Int) (b : Int) = ((a ^^^ b : Nat) : Int) := i64_xor_nat a b (by omega) (by omega)
set_option maxRecDepth 100000 in
set_option maxHeartbeats 1000000 in
theorem flip_ok (g n d v x base : Nat) (Q : List Nat) (w : World) (hown : OwnI w base (some ⟨g, 0, none⟩) n d (ints Q)) (h : GOk n Q) (hv : v < n) (hx : x < n) (hne : v ≠ x) (hbit : (nb Q v).testBit x = false) :
    Calls Tryz.prog 109 #[.agg #[.int .i64 n, .slice (some ⟨g, 0, none⟩) n d], .int .i64 v, .int .i64 x] w fun e w' => e = .returned (.tuple #[]) ∧ OwnI w' base (some ⟨g, 0, none⟩) n d (ints (addE Q v x)) ∧ w.grownBy w' (some g) := by
  have hn7 := h.le
  have hl := h.len
  have hs1 := xor_bit hbit
  have hs2 := xor_bit (show (nb Q x).testBit v = false by rw [← h.sym]; exact hbit)
  have hv7 := h.nb7 v
  have hx7 := h.nb7 x
  have hpx := p2_le (k := x) (by omega)
  have hpv := p2_le (k := v) (by omega)
  have hv1 : IntKind.i64.wrap ((2 : Int) ^ x) = ((p2 x : Nat) : Int) := by rw [IntWalk.i64_left]; exact shl_p2 (by omega)
  have hv2 : IntKind.i64.wrap ((2 : Int) ^ v) = ((p2 v : Nat) : Int) := by rw [IntWalk.i64_left]; exact shl_p2 (by omega)
  have hq1 : bits .xor .i64 ((nb Q v : Nat) : Int) ((p2 x : Nat) : Int) = ((nb Q v ||| 2 ^ x : Nat) : Int) := by rw [i64_xor7 (by omega) (by omega), ← hs1]; rfl
  have hq2 : bits .xor .i64 ((nb Q x : Nat) : Int) ((p2 v : Nat) : Int) = ((nb Q x ||| 2 ^ v : Nat) : Int) := by rw [i64_xor7 (by omega) (by omega), ← hs2]; rfl
  have hb0 := Blk.new w 29 #[.int .i64 n, .slice (some ⟨g, 0, none⟩) n d]
  have hgl : g < w.heap.size := (hown.block g rfl).2
  replace hown := hown.alloc (.cells #[.int .i64 n, .slice (some ⟨g, 0, none⟩) n d] 29)
  have hcv := hown.nat hv
  have hfv := hown.frz v
  have hyb := hb0.two
  clear hs1 hs2
  go_enter Tryz.func109, Tryz.ntmps109
  go_wp2_with fail
  obtain ⟨W0, hW0⟩ : ∃ W0, W0 = w.alloc (.cells #[.int .i64 n, .slice (some ⟨g, 0, none⟩) n d] 29) := ⟨_, rfl⟩
  have hgr0 : w.grownBy W0 (some g) := by rw [hW0]; exact World.grownBy_alloc _ _ _
  rw [← hW0] at hb0 hown hcv hfv hyb
  rw [← hW0]
  clear hW0
  go_still_tail 9, (by kernel_rfl)
  change wpList _ _ _ _ _ W0.drew
  have hcv2 : W0.drew.cell? ⟨g, v, none⟩ = some (.int .i64 (nb Q v)) := hcv
  have hfv2 : W0.drew.frozen? ⟨g, v, none⟩ = false := hfv
  go_wp2
  obtain ⟨w4, hw4⟩ : ∃ w4, w4 = (W0.setCell ⟨g, v, none⟩ (.int .i64 ((nb Q v ||| 2 ^ x : Nat) : Int))).drew := ⟨_, rfl⟩
  obtain ⟨Q1, hQ1⟩ : ∃ Q1, Q1 = Q.set v (nb Q v ||| 2 ^ x) := ⟨_, rfl⟩
  have hown4 : OwnI w4 base (some ⟨g, 0, none⟩) n d (ints Q1) := by rw [hw4, hQ1]; exact (hown.putNat v (nb Q v ||| 2 ^ x)).drew
  have hb4 : Blk w4 w.heap.size 29 #[.int .i64 n, .slice (some ⟨g, 0, none⟩) n d] := by rw [hw4]; exact (hb0.far (fun e => own_blk_ne (e := 3) hown hb0 (by decide) (by simp [Value.ownBlock, e])) _).drew
  have hgr4 : w.grownBy w4 (some g) := by rw [hw4]; exact grown_drew (hgr0.trans (grown_setCell W0 ⟨g, v, none⟩ _))
  rw [← hw4]
  clear hw4 hyb hcv hfv hcv2 hfv2
  have hyb := hb4.two
  have hcx := hown4.nat hx
  have hfx := hown4.frz x
  have hQx : nb Q1 x = nb Q x := by rw [hQ1, nb_set' (by omega), if_neg (fun e => hne e.symm)]
  have hQ2 : Q1.set x (nb Q x ||| 2 ^ v) = addE Q v x := by rw [hQ1, addE]
  rw [hQx] at hcx
  clear hQx hQ1
  have hof := (hown4.putNat x (nb Q x ||| 2 ^ v)).drew
  rw [hQ2] at hof
  have hgf := grown_drew (hgr4.trans (grown_setCell w4 ⟨g, x, none⟩ (.int .i64 ((nb Q x ||| 2 ^ v : Nat) : Int))))
  go_wp2_with fail
  go_still_tail 9, (by kernel_rfl)
  change wpList _ _ _ _ _ w4.drew
  have hcx2 : w4.drew.cell? ⟨g, x, none⟩ = some (.int .i64 (nb Q x)) := hcx
  have hfx2 : w4.drew.frozen? ⟨g, x, none⟩ = false := hfx
  go_wp2
  go_end0
  exact ⟨rfl, hof, hgf⟩
set_option maxRecDepth 100000 in
set_option maxHeartbeats 1000000 in
theorem joined_ok (A B : Option Addr) (n m ca cb bx i j : Nat) (L R : List Int) (w : World) (hL : RI w A n L) (hR : RI w B m R) (hbx : Blk w bx 26 #[.slice A n ca, .slice B m cb]) (hi : i < n) (hj : j < n) (hnm : n = m) :
    Calls Tryz.prog 60 #[.int .i64 j, .int .i64 i, .pointer (some ⟨bx, 0, none⟩)] w fun e w' => e = .returned (.bool (meets L R i j)) ∧ ∃ k, w' = w.drewN k := by
  subst hnm
  obtain ⟨a, rfl, _, hcl⟩ := hL.addr (show 0 < n by omega)
  obtain ⟨b, rfl, _, hcr⟩ := hR.addr (show 0 < n by omega)
  have h1 := hcl i hi
  have h2 := hcl j hj
  have h3 := hcr i hi
  have h4 := hcr j hj
  have hyb := hbx.two
  clear hcl hcr
  by_cases e1 : L.getD j 0 ≤ R.getD i 0
  · have d1 : decide (L[j]?.getD 0 ≤ R[i]?.getD 0) = true := by simpa using e1
    have HM := Lib.hid (show meets L R i j = decide (L[i]?.getD 0 ≤ R[j]?.getD 0) by rw [meets, decide_eq_true e1, Bool.and_true]; rfl)
    clear e1
    go_enter Tryz.func60, Tryz.ntmps60
    go_wp2_with fail
    go_quiet (fail)
    go_wp2
    go_ret
    exact ⟨ret_bool HM.out.symm, _, rfl⟩
  · have d1 : decide (L[j]?.getD 0 ≤ R[i]?.getD 0) = false := by simpa using e1
    have HM := Lib.hid (show meets L R i j = false by rw [meets, decide_eq_false e1, Bool.and_false])
    clear e1
    go_enter Tryz.func60, Tryz.ntmps60
    go_wp2_with fail
    go_quiet (fail)
    go_wp2
    go_ret
    exact ⟨ret_bool HM.out.symm, _, rfl⟩
set_option maxRecDepth 100000 in
set_option maxHeartbeats 2000000 in
theorem graphOf_ok (A B : Option Addr) (n ca cb bx : Nat) (L R : List Int) (w : World) (hL : RI w A n L) (hR : RI w B n R) (hbx : Blk w bx 26 #[.slice A n ca, .slice B n cb]) (h1 : 1 ≤ n) (h7 : n ≤ 7) :
    Calls Tryz.prog 59 #[.int .i64 n, .func (.func 60) #[] #[.pointer (some ⟨bx, 0, none⟩)]] w fun e w' => ∃ g d, e = .returned (.agg #[.int .i64 n, .slice (some ⟨g, 0, none⟩) n d]) ∧ OwnI w' w.heap.size (some ⟨g, 0, none⟩) n d (ints (graphJ (meets L R) n n)) ∧ Below w.heap.size w w' := by
  have hmk := make_ints n (by omega)
  have hlx := hbx.lt
  have hgn := ((Blk.new_at (w := w.alloc (.cells #[.int .i64 0, .slice none 0 0] 29)) (t := 3) (cs := natCells (List.replicate n 0)) (g := w.heap.size + 1) (by simp)).alloc (.cells #[.int .i64 n, .slice (some ⟨w.heap.size + 1, 0, none⟩) n n] 29)).own (base := w.heap.size) (n := n) (by omega) (by rw [natCells_size]; simp) (by unfold maxLen; omega)
  have hb4 := ((Blk.new w 29 #[.int .i64 0, .slice none 0 0]).alloc (.cells (natCells (List.replicate n 0)) 3)).alloc (.cells #[.int .i64 n, .slice (some ⟨w.heap.size + 1, 0, none⟩) n n] 29)
  have hb5 := Blk.new_at (w := (w.alloc (.cells #[.int .i64 0, .slice none 0 0] 29)).alloc (.cells (natCells (List.replicate n 0)) 3)) (t := 29) (cs := #[.int .i64 n, .slice (some ⟨w.heap.size + 1, 0, none⟩) n n]) (g := w.heap.size + 2) (by simp)
  have hbel : Below w.heap.size w (((w.alloc (.cells #[.int .i64 0, .slice none 0 0] 29)).alloc (.cells (natCells (List.replicate n 0)) 3)).alloc (.cells #[.int .i64 n, .slice (some ⟨w.heap.size + 1, 0, none⟩) n n] 29)) := by go_grown
  rw [natCells_zero] at hgn hb4 hb5 hbel
  have hown0 : OwnI (((w.alloc (.cells #[.int .i64 0, .slice none 0 0] 29)).alloc (.cells (zeros n) 3)).alloc (.cells #[.int .i64 n, .slice (some ⟨w.heap.size + 1, 0, none⟩) n n] 29)) w.heap.size (some ⟨w.heap.size + 1, 0, none⟩) n n (ints (graphJ (meets L R) n 0)) := by
    have e : (zeros n).toList = (ints (graphJ (meets L R) n 0)).map (Value.int .i64) := by rw [← natCells_zero]; simp [natCells, graphJ]
    rw [e] at hgn
    exact hgn
  clear hgn
  go_enter Tryz.func59, Tryz.ntmps59
  go_wp2_with fail
  clear hmk
  go_loopw [13] (fun i wr => ∃ k : Nat, k ≤ n ∧ i = .int .i64 k ∧ OwnI wr w.heap.size (some ⟨w.heap.size + 1, 0, none⟩) n n (ints (graphJ (meets L R) n k)) ∧ Blk wr w.heap.size 29 #[.int .i64 0, .slice none 0 0] ∧ Blk wr (w.heap.size + 2) 29 #[.int .i64 n, .slice (some ⟨w.heap.size + 1, 0, none⟩) n n] ∧ Below w.heap.size w wr) (fun i _ => n - (intOf i).toNat)
  case atStart => exact ⟨0, Nat.zero_le _, rfl, hown0, hb4, hb5, hbel⟩
  case round =>
    clear hown0 hb4 hb5 hbel
    obtain ⟨k, hk, rfl, hown, hb4, hb5, hb⟩ := hrel
    obtain ⟨wo, rfl⟩ : ∃ wo : World, wo = wr := ⟨_, rfl⟩
    by_cases hlt : k < n
    · have HG := Lib.hid (graphJ_ok (J := meets L R) h1 h7 k (by omega))
      have HN := Lib.hid (show graphJ (meets L R) n (k + 1) = pairsJ (meets L R) (graphJ (meets L R) n k) k k from rfl)
      obtain ⟨Q0, hQ0⟩ : ∃ Q0, Q0 = graphJ (meets L R) n k := ⟨_, rfl⟩
      rw [← hQ0] at hown HG HN
      clear hQ0
      have hp0 : pairsJ (meets L R) Q0 k 0 = Q0 := rfl
      rw [← hp0] at hown
      clear hp0
      go_wp2_with fail
      go_loopw [17] (fun i wr => ∃ j : Nat, j ≤ k ∧ i = .int .i64 j ∧ OwnI wr w.heap.size (some ⟨w.heap.size + 1, 0, none⟩) n n (ints (pairsJ (meets L R) Q0 k j)) ∧ Blk wr w.heap.size 29 #[.int .i64 0, .slice none 0 0] ∧ Blk wr (w.heap.size + 2) 29 #[.int .i64 n, .slice (some ⟨w.heap.size + 1, 0, none⟩) n n] ∧ Below w.heap.size w wr) (fun i _ => k - (intOf i).toNat)
      case atStart => exact ⟨0, Nat.zero_le _, rfl, hown, hb4, hb5, hb⟩
      case round =>
        clear hown hb4 hb5 hb
        obtain ⟨j, hj, rfl, hown, hb4, hb5, hb⟩ := hrel
        obtain ⟨wi, rfl⟩ : ∃ wi : World, wi = wr := ⟨_, rfl⟩
        by_cases hjt : j < k
        · have HP := Lib.hid (pairsJ_ok (J := meets L R) HG.out hlt j hj)
          rcases Bool.eq_false_or_eq_true (meets L R k j) with e1 | e1
          · have HY := Lib.hid (pairsJ_yes (Q := Q0) e1)
            have HE := Lib.hid e1
            clear e1
            obtain ⟨Q1, hQ1⟩ : ∃ Q1, Q1 = pairsJ (meets L R) Q0 k j := ⟨_, rfl⟩
            rw [← hQ1] at hown HP HY
            clear hQ1
            go_wp2_with fail
            refine (joined_ok A B n n ca cb bx k j L R _ (hL.up hb) (hR.up hb) (hbx.up hb) hlt (by omega) rfl).mono ?_
            rintro e w2 ⟨rfl, q, hq⟩
            rw [HE.out]
            have hown2 : OwnI w2 w.heap.size (some ⟨w.heap.size + 1, 0, none⟩) n n (ints Q1) := by rw [hq]; exact hown.drewN q
            have hb42 : Blk w2 w.heap.size 29 #[.int .i64 0, .slice none 0 0] := by rw [hq]; exact hb4.drewN q
            have hb52 : Blk w2 (w.heap.size + 2) 29 #[.int .i64 n, .slice (some ⟨w.heap.size + 1, 0, none⟩) n n] := by rw [hq]; exact hb5.drewN q
            have hbb : Below w.heap.size w w2 := by rw [hq]; exact below_drewN hb q
            clear hq
            have hyb := hb52.two
            have hll := hb52.lt
            go_wp2_with fail
            refine (flip_ok (w.heap.size + 1) n n j k w.heap.size Q1 _ hown2 HP.out.1 (by omega) hlt (by omega) (upToPair_bit HP.out hjt).2).mono ?_
            rintro e w3 ⟨rfl, hown3, hg3⟩
            rw [addE_swap (by omega), ← HY.out] at hown3
            have hb43 := hb42.grown hg3 (by simp)
            have hb53 := hb52.grown hg3 (by simp)
            have hb3 := hbb.grown hg3 (by omega) (fun k hk => by simp at hk; omega)
            go_wp2
            go_roundw
            case rel => exact ⟨j + 1, by omega, by go_num, hown3, hb43, hb53, hb3⟩
            case measure => simp [intOf]; omega
          · have HY := Lib.hid (pairsJ_no (Q := Q0) e1)
            have HE := Lib.hid e1
            clear e1
            go_wp2_with fail
            refine (joined_ok A B n n ca cb bx k j L R _ (hL.up hb) (hR.up hb) (hbx.up hb) hlt (by omega) rfl).mono ?_
            rintro e w2 ⟨rfl, q, hq⟩
            rw [HE.out]
            have hown2 : OwnI w2 w.heap.size (some ⟨w.heap.size + 1, 0, none⟩) n n (ints (pairsJ (meets L R) Q0 k j)) := by rw [hq]; exact hown.drewN q
            have hb42 : Blk w2 w.heap.size 29 #[.int .i64 0, .slice none 0 0] := by rw [hq]; exact hb4.drewN q
            have hb52 : Blk w2 (w.heap.size + 2) 29 #[.int .i64 n, .slice (some ⟨w.heap.size + 1, 0, none⟩) n n] := by rw [hq]; exact hb5.drewN q
            have hbb : Below w.heap.size w w2 := by rw [hq]; exact below_drewN hb q
            clear hq
            go_wp2
            go_roundw
            case rel => exact ⟨j + 1, by omega, by go_num, by rw [HY.out]; exact hown2, hb42, hb52, hbb⟩
            case measure => simp [intOf]; omega
        · obtain rfl : j = k := by omega
          go_wp2
          go_roundw
          case rel => exact ⟨j + 1, by omega, by go_num, by rw [HN.out]; exact hown, hb4, hb5, hb⟩
          case measure => simp [intOf]; omega
    · obtain rfl : k = n := by omega
      have hyb := hb5.two
      have f0 := hb4.frozen 0
      have f1 := hb4.frozen 1
      have hy4 := hb4.two
      have hfin := ((hb4.set_ 0 (.int .i64 k)).set_ 1 (.slice (some ⟨w.heap.size + 1, 0, none⟩) k k)).two
      have hof := (hown.other_store (i := 0) hb4 (by decide) (.int .i64 k)).other_store (i := 1) (hb4.set_ 0 (.int .i64 k)) (by decide) (.slice (some ⟨w.heap.size + 1, 0, none⟩) k k)
      have hbf := (hb.setCell (p := ⟨w.heap.size, 0, none⟩) (Nat.le_refl _) (.int .i64 k)).setCell (p := ⟨w.heap.size, 1, none⟩) (Nat.le_refl _) (.slice (some ⟨w.heap.size + 1, 0, none⟩) k k)
      go_wp2
      generalize (wo.setCell ⟨w.heap.size, 0, none⟩ (.int .i64 k)).setCell ⟨w.heap.size, 1, none⟩ (.slice (some ⟨w.heap.size + 1, 0, none⟩) k k) = Wf at hfin hof hbf ⊢
      refine bodyPost_ret (v := .agg #[.int .i64 k, .slice (some ⟨w.heap.size + 1, 0, none⟩) k k]) ?_ rfl ?_
      · simp [results, Tryz.results59, go_sem, hfin]
      exact ⟨_, _, rfl, hof, hbf⟩
set_option maxRecDepth 100000 in
set_option maxHeartbeats 2000000 in
theorem implGraphOfIntervals_any (A B : Option Addr) (n m ca cb : Nat) (L R : List Int) (w : World) (hL : RI w A n L) (hR : RI w B m R) (hn : n ≤ 1048576) (hm : m ≤ 1048576) :
    Calls Tryz.prog 7 #[.agg #[.slice A n ca, .slice B m cb]] w (GivesGB (goiNum L R) (goiRows L R) (isModel L R) w) := by
  have HL := Lib.hid hL.1
  have HR2 := Lib.hid hR.1
  rcases Bool.eq_false_or_eq_true (isModel L R) with hg | hg
  rotate_left
  · have Hg := Lib.hid hg
    have HR := Lib.hid (goi_no hg)
    clear hg
    rw [HR.out.1, HR.out.2]
    go_enter Tryz.func7, Tryz.ntmps7
    go_wp2_with fail
    refine (implIsModel_any A B n m ca cb L R _ (hL.up (by go_grown)) (hR.up (by go_grown)) hn hm).mono ?_
    rintro e w1 ⟨rfl, hb1⟩
    have hU1 : Up w w1 := Up.then_ (by go_grown) hb1
    have hbr := (Blk.new_at (w := w.alloc (.cells #[.slice A n ca, .slice B m cb] 26)) (t := 29) (cs := #[.int .i64 0, .slice none 0 0]) (g := w.heap.size + 1) (by simp)).up hb1
    have f0 := hbr.frozen 0
    have f1 := hbr.frozen 1
    have hyb := hbr.two
    have hfin := ((hbr.set_ 0 (.int .i64 0)).set_ 1 (.slice none 0 0)).two
    have hbf := (hU1.setCell (p := ⟨w.heap.size + 1, 0, none⟩) (by simp) (.int .i64 0)).setCell (p := ⟨w.heap.size + 1, 1, none⟩) (by simp) (.slice none 0 0)
    rw [Hg.out]
    go_wp2
    generalize (w1.setCell ⟨w.heap.size + 1, 0, none⟩ (.int .i64 0)).setCell ⟨w.heap.size + 1, 1, none⟩ (.slice none 0 0) = Wf at hfin hbf ⊢
    refine bodyPost_ret (v := .tuple #[.agg #[.int .i64 0, .slice none 0 0], .bool false]) ?_ rfl ?_
    · simp [results, Tryz.results7, go_sem, hfin]
    exact ⟨none, 0, by rw [Hg.out]; rfl, OwnI.nil_ _ _, hbf⟩
  · have sp := isModel_spec hg
    have Hg := Lib.hid hg
    have HR := Lib.hid (goi_ok hg)
    have h1 : 1 ≤ n := by have := HL.out; omega
    have h7 : n ≤ 7 := by have := HL.out; omega
    obtain rfl : n = m := by have := HL.out; have := HR2.out; omega
    have Hn := Lib.hid (show L.length = n from HL.out)
    clear hg sp
    rw [HR.out.1, HR.out.2]
    go_enter Tryz.func7, Tryz.ntmps7
    go_wp2_with fail
    refine (implIsModel_any A B n n ca cb L R _ (hL.up (by go_grown)) (hR.up (by go_grown)) hn hm).mono ?_
    rintro e w1 ⟨rfl, hb1⟩
    have hU1 : Up w w1 := Up.then_ (by go_grown) hb1
    replace hL := hL.up hU1
    replace hR := hR.up hU1
    have hbx := ((Blk.new w 26 #[.slice A n ca, .slice B n cb]).alloc (.cells #[.int .i64 0, .slice none 0 0] 29)).up hb1
    have hbr := (Blk.new_at (w := w.alloc (.cells #[.slice A n ca, .slice B n cb] 26)) (t := 29) (cs := #[.int .i64 0, .slice none 0 0]) (g := w.heap.size + 1) (by simp)).up hb1
    have yhbx := hbx.two
    have lhbx := hbx.lt
    have yhbr := hbr.two
    have lhbr := hbr.lt
    rw [Hg.out]
    go_wp2_with fail
    refine (graphOf_ok A B n ca cb w.heap.size L R _ hL hR hbx h1 h7).mono ?_
    rintro e w2 ⟨g, d, rfl, hown, hb2⟩
    have hU2 : Up w1 w2 := Up.then_ (by go_grown) hb2
    replace hL := hL.up hU2
    replace hR := hR.up hU2
    replace hbx := hbx.up hU2
    replace hbr := hbr.up hU2
    replace yhbx := hbx.two
    replace lhbx := hbx.lt
    replace yhbr := hbr.two
    replace lhbr := hbr.lt
    have f0 := hbr.frozen 0
    have f1 := hbr.frozen 1
    have hw2 := Up.then_ hU1 hU2
    have hfin := ((hbr.set_ 0 (.int .i64 n)).set_ 1 (.slice (some ⟨g, 0, none⟩) n d)).two
    have hof := (hown.other_store (i := 0) hbr (by decide) (.int .i64 n)).other_store (i := 1) (hbr.set_ 0 (.int .i64 n)) (by decide) (.slice (some ⟨g, 0, none⟩) n d)
    have hbf := (hw2.setCell (p := ⟨w.heap.size + 1, 0, none⟩) (by simp) (.int .i64 n)).setCell (p := ⟨w.heap.size + 1, 1, none⟩) (by simp) (.slice (some ⟨g, 0, none⟩) n d)
    go_wp2
    generalize (w2.setCell ⟨w.heap.size + 1, 0, none⟩ (.int .i64 n)).setCell ⟨w.heap.size + 1, 1, none⟩ (.slice (some ⟨g, 0, none⟩) n d) = Wf at hfin hof hbf ⊢
    refine bodyPost_ret (v := .tuple #[.agg #[.int .i64 n, .slice (some ⟨g, 0, none⟩) n d], .bool true]) ?_ rfl ?_
    · simp [results, Tryz.results7, go_sem, hfin]
    have e : graphRows L R = graphJ (meets L R) n n := by rw [graphRows, Hn.out]
    rw [Hg.out, e, Hn.out]
    exact givesGB_of (by rw [(graphJ_ok (J := meets L R) h1 h7 n (Nat.le_refl _)).1.len]) hof hU1.size hbf
set_option maxRecDepth 100000 in
set_option maxHeartbeats 2000000 in
theorem specGraphOfIntervals_any (A B : Option Addr) (n m ca cb : Nat) (L R : List Int) (w : World) (hL : RI w A n L) (hR : RI w B m R) (hn : n ≤ 1048576) (hm : m ≤ 1048576) :
    Calls Tryz.prog 8 #[.agg #[.slice A n ca, .slice B m cb]] w (GivesGB (goiNum L R) (goiRows L R) (isModel L R) w) := by
  have HL := Lib.hid hL.1
  have HR2 := Lib.hid hR.1
  rcases Bool.eq_false_or_eq_true (isModel L R) with hg | hg
  rotate_left
  · have Hg := Lib.hid hg
    have HR := Lib.hid (goi_no hg)
    clear hg
    rw [HR.out.1, HR.out.2]
    go_enter Tryz.func8, Tryz.ntmps8
    go_wp2_with fail
    refine (specIsModel_any A B n m ca cb L R _ (hL.up (by go_grown)) (hR.up (by go_grown)) hn hm).mono ?_
    rintro e w1 ⟨rfl, hb1⟩
    have hU1 : Up w w1 := Up.then_ (by go_grown) hb1
    have hbr := (Blk.new_at (w := w.alloc (.cells #[.slice A n ca, .slice B m cb] 26)) (t := 29) (cs := #[.int .i64 0, .slice none 0 0]) (g := w.heap.size + 1) (by simp)).up hb1
    have f0 := hbr.frozen 0
    have f1 := hbr.frozen 1
    have hyb := hbr.two
    have hfin := ((hbr.set_ 0 (.int .i64 0)).set_ 1 (.slice none 0 0)).two
    have hbf := (hU1.setCell (p := ⟨w.heap.size + 1, 0, none⟩) (by simp) (.int .i64 0)).setCell (p := ⟨w.heap.size + 1, 1, none⟩) (by simp) (.slice none 0 0)
    rw [Hg.out]
    go_wp2
    generalize (w1.setCell ⟨w.heap.size + 1, 0, none⟩ (.int .i64 0)).setCell ⟨w.heap.size + 1, 1, none⟩ (.slice none 0 0) = Wf at hfin hbf ⊢
    refine bodyPost_ret (v := .tuple #[.agg #[.int .i64 0, .slice none 0 0], .bool false]) ?_ rfl ?_
    · simp [results, Tryz.results8, go_sem, hfin]
    exact ⟨none, 0, by rw [Hg.out]; rfl, OwnI.nil_ _ _, hbf⟩
  · have sp := isModel_spec hg
    have Hg := Lib.hid hg
    have HR := Lib.hid (goi_ok hg)
    have h1 : 1 ≤ n := by have := HL.out; omega
    have h7 : n ≤ 7 := by have := HL.out; omega
    obtain rfl : n = m := by have := HL.out; have := HR2.out; omega
    have Hn := Lib.hid (show L.length = n from HL.out)
    clear hg sp
    rw [HR.out.1, HR.out.2]
    go_enter Tryz.func8, Tryz.ntmps8
    go_wp2_with fail
    refine (specIsModel_any A B n n ca cb L R _ (hL.up (by go_grown)) (hR.up (by go_grown)) hn hm).mono ?_
    rintro e w1 ⟨rfl, hb1⟩
    have hU1 : Up w w1 := Up.then_ (by go_grown) hb1
    replace hL := hL.up hU1
    replace hR := hR.up hU1
    have hbx := ((Blk.new w 26 #[.slice A n ca, .slice B n cb]).alloc (.cells #[.int .i64 0, .slice none 0 0] 29)).up hb1
    have hbr := (Blk.new_at (w := w.alloc (.cells #[.slice A n ca, .slice B n cb] 26)) (t := 29) (cs := #[.int .i64 0, .slice none 0 0]) (g := w.heap.size + 1) (by simp)).up hb1
    have yhbx := hbx.two
    have lhbx := hbx.lt
    have yhbr := hbr.two
    have lhbr := hbr.lt
    have hX0 : Up w w1 := hU1
    have hmk := make_ints n (by omega)
    rw [Hg.out]
    have hown0 : OwnI ((w1.alloc (.cells (zeros n) 3)).alloc (.cells #[.int .i64 n, .slice (some ⟨w1.heap.size, 0, none⟩) n n] 29)) w1.heap.size (some ⟨w1.heap.size, 0, none⟩) n n (ints (graphJ (meets L R) n 0)) := by
      have hgn := ((Blk.new w1 3 (natCells (List.replicate n 0))).alloc (.cells #[.int .i64 n, .slice (some ⟨w1.heap.size, 0, none⟩) n n] 29)).own (base := w1.heap.size) (n := n) (Nat.le_refl _) (by rw [natCells_size]; simp) (by unfold maxLen; omega)
      rw [natCells_zero] at hgn
      have e : (zeros n).toList = (ints (graphJ (meets L R) n 0)).map (Value.int .i64) := by rw [← natCells_zero]; simp [natCells, graphJ]
      rw [e] at hgn
      exact hgn
    have hb5 := Blk.new_at (w := w1.alloc (.cells (zeros n) 3)) (t := 29) (cs := #[.int .i64 n, .slice (some ⟨w1.heap.size, 0, none⟩) n n]) (g := w1.heap.size + 1) (by simp)
    go_wp2_with fail
    clear hmk
    go_loopw [6] (fun i wr => ∃ (k g d : Nat), k ≤ n ∧ i = .int .i64 k ∧ OwnI wr w1.heap.size (some ⟨g, 0, none⟩) n d (ints (graphJ (meets L R) n k)) ∧ Blk wr (w1.heap.size + 1) 29 #[.int .i64 n, .slice (some ⟨g, 0, none⟩) n d] ∧ Below w1.heap.size w1 wr) (fun i _ => n - (intOf i).toNat)
    case atStart => exact ⟨0, _, _, Nat.zero_le _, rfl, hown0, hb5, by go_grown⟩
    case round =>
      clear hown0 hb5
      obtain ⟨k, g, d, hk, rfl, hown, hb5, hb⟩ := hrel
      obtain ⟨wo, rfl⟩ : ∃ wo : World, wo = wr := ⟨_, rfl⟩
      by_cases hlt : k < n
      · have HG := Lib.hid (graphJ_ok (J := meets L R) h1 h7 k (by omega))
        have HN := Lib.hid (show graphJ (meets L R) n (k + 1) = pairsJ (meets L R) (graphJ (meets L R) n k) k k from rfl)
        obtain ⟨Q0, hQ0⟩ : ∃ Q0, Q0 = graphJ (meets L R) n k := ⟨_, rfl⟩
        rw [← hQ0] at hown HG HN
        clear hQ0
        have hp0 : pairsJ (meets L R) Q0 k 0 = Q0 := rfl
        rw [← hp0] at hown
        clear hp0
        go_wp2_with fail
        go_loopw [7] (fun i wr => ∃ (j g d : Nat), j ≤ k ∧ i = .int .i64 j ∧ OwnI wr w1.heap.size (some ⟨g, 0, none⟩) n d (ints (pairsJ (meets L R) Q0 k j)) ∧ Blk wr (w1.heap.size + 1) 29 #[.int .i64 n, .slice (some ⟨g, 0, none⟩) n d] ∧ Below w1.heap.size w1 wr) (fun i _ => k - (intOf i).toNat)
        case atStart => exact ⟨0, _, _, Nat.zero_le _, rfl, hown, hb5, hb⟩
        case round =>
          clear hown hb5 hb
          obtain ⟨j, g, d, hj, rfl, hown, hb5, hb⟩ := hrel
          obtain ⟨wi, rfl⟩ : ∃ wi : World, wi = wr := ⟨_, rfl⟩
          have yhbx2 := (hbx.up hb).two
          by_cases hjt : j < k
          · have HP := Lib.hid (pairsJ_ok (J := meets L R) HG.out hlt j hj)
            obtain ⟨a, hA, _, hcl⟩ := (hL.up hb).addr (show 0 < n by omega)
            obtain ⟨b, hB, _, hcr⟩ := (hR.up hb).addr (show 0 < n by omega)
            subst hA hB
            have c1 := hcl k hlt
            have c2 := hcl j (by omega)
            have c3 := hcr k hlt
            have c4 := hcr j (by omega)
            clear hcl hcr
            by_cases e1 : L.getD k 0 ≤ R.getD j 0
            · have d1 : decide (L[k]?.getD 0 ≤ R[j]?.getD 0) = true := by simpa using e1
              by_cases e2 : L.getD j 0 ≤ R.getD k 0
              · have d2 : decide (L[j]?.getD 0 ≤ R[k]?.getD 0) = true := by simpa using e2
                have HY := Lib.hid (pairsJ_yes (Q := Q0) (show meets L R k j = true by rw [meets, decide_eq_true e1, decide_eq_true e2]; rfl))
                clear e1 e2
                obtain ⟨Q1, hQ1⟩ : ∃ Q1, Q1 = pairsJ (meets L R) Q0 k j := ⟨_, rfl⟩
                rw [← hQ1] at hown HP HY
                clear hQ1
                go_wp2_with fail
                go_quiet (fail)
                have yhb5 := hb5.two
                go_wp2_with fail
                refine ((addEdge_ok ⟨g, 0, none⟩ n d k j Q1 _ (hown.drewN _).ri HP.out.1 hlt (by omega) (by omega)).mono fun e w' hg => hg.out (by rw [addE_len, HP.out.1.len]) (by omega)).mono ?_
                rintro e w3 ⟨g', d', rfl, hown3, hb3⟩
                have hb53 := (hb5.drewN _).up hb3
                have hw3 := Up.then_ (below_drewN hb _) hb3
                replace hown3 := hown3.more (base' := w1.heap.size) hb.size
                rw [← HY.out] at hown3
                clear yhb5 yhbx2
                have hyb := hb53.two
                have f0 := hb53.frozen 0
                have f1 := hb53.frozen 1
                go_wp2
                go_roundw
                case rel => exact ⟨j + 1, g', d', by omega, by go_num, (hown3.other_store (i := 0) hb53 (by decide) (.int .i64 n)).other_store (i := 1) (hb53.set_ 0 (.int .i64 n)) (by decide) (.slice (some ⟨g', 0, none⟩) n d'), (hb53.set_ 0 (.int .i64 n)).set_ 1 (.slice (some ⟨g', 0, none⟩) n d'), (hw3.setCell (p := ⟨w1.heap.size + 1, 0, none⟩) (by simp) (.int .i64 n)).setCell (p := ⟨w1.heap.size + 1, 1, none⟩) (by simp) (.slice (some ⟨g', 0, none⟩) n d')⟩
                case measure => simp [intOf]; omega
              · have d2 : decide (L[j]?.getD 0 ≤ R[k]?.getD 0) = false := by simpa using e2
                have HY := Lib.hid (pairsJ_no (Q := Q0) (show meets L R k j = false by rw [meets, decide_eq_false e2, Bool.and_false]))
                clear e1 e2
                go_wp2_with fail
                go_quiet (fail)
                go_wp2
                go_roundw
                case rel => exact ⟨j + 1, g, d, by omega, by go_num, by rw [HY.out]; exact hown.drewN _, hb5.drewN _, below_drewN hb _⟩
                case measure => simp [intOf]; omega
            · have d1 : decide (L[k]?.getD 0 ≤ R[j]?.getD 0) = false := by simpa using e1
              have HY := Lib.hid (pairsJ_no (Q := Q0) (show meets L R k j = false by rw [meets, decide_eq_false e1, Bool.false_and]))
              clear e1
              go_wp2_with fail
              go_quiet (fail)
              go_wp2
              go_roundw
              case rel => exact ⟨j + 1, g, d, by omega, by go_num, by rw [HY.out]; exact hown.drewN _, hb5.drewN _, below_drewN hb _⟩
              case measure => simp [intOf]; omega
          · obtain rfl : j = k := by omega
            go_wp2
            go_roundw
            case rel => exact ⟨j + 1, g, d, by omega, by go_num, by rw [HN.out]; exact hown, hb5, hb⟩
            case measure => simp [intOf]; omega
      · obtain rfl : k = n := by omega
        have hbr2 := hbr.up hb
        have hyb := hb5.two
        have hyr := hbr2.two
        have hlr := hbr2.lt
        have f0 := hbr2.frozen 0
        have f1 := hbr2.frozen 1
        have hw2 := Up.then_ hU1 hb
        have hfin := ((hbr2.set_ 0 (.int .i64 k)).set_ 1 (.slice (some ⟨g, 0, none⟩) k d)).two
        have hof := (hown.other_store (i := 0) hbr2 (by decide) (.int .i64 k)).other_store (i := 1) (hbr2.set_ 0 (.int .i64 k)) (by decide) (.slice (some ⟨g, 0, none⟩) k d)
        have hbf := (hw2.setCell (p := ⟨w.heap.size + 1, 0, none⟩) (by simp) (.int .i64 k)).setCell (p := ⟨w.heap.size + 1, 1, none⟩) (by simp) (.slice (some ⟨g, 0, none⟩) k d)
        go_wp2
        generalize (wo.setCell ⟨w.heap.size + 1, 0, none⟩ (.int .i64 k)).setCell ⟨w.heap.size + 1, 1, none⟩ (.slice (some ⟨g, 0, none⟩) k d) = Wf at hfin hof hbf ⊢
        refine bodyPost_ret (v := .tuple #[.agg #[.int .i64 k, .slice (some ⟨g, 0, none⟩) k d], .bool true]) ?_ rfl ?_
        · simp [results, Tryz.results8, go_sem, hfin]
        have e : graphRows L R = graphJ (meets L R) k k := by rw [graphRows, Hn.out]
        rw [Hg.out, e, Hn.out]
        exact givesGB_of (by rw [(graphJ_ok (J := meets L R) h1 h7 k (Nat.le_refl _)).1.len]) hof hU1.size hbf
end Go.Proofs.YthncdjcmlpiebaaGreatDoor
