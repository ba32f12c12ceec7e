/- Walks of chapter 8: the reference's graph of a tree of bags. -/
import Derived.Test.YtfodbgogeclifaaW8t
import Derived.Deep.RegionWith
namespace Go.Proofs.Ytfodbgogeclifaa
open Go.RowKit
set_option maxRecDepth 100000 in
set_option maxHeartbeats 4000000 in
theorem specGraphOfTree_any (A B : Option Addr) (m m' ca cb : Nat) (L R : List Int) (N : Int) (w : World) (hL : RI w A m L) (hR : RI w B m' R) (hm : m ≤ 1048576) (hm' : m' ≤ 1048576) :
    Calls Try.prog 43 #[.agg #[.slice A m ca, .slice B m' cb], .int .i64 N] w (GivesGB (goTNum L R N) (goTRows L R N) (hasGoT L R N) w) := by
  have HL := Lib.hid hL.1
  rcases isTree_cases L R with hg | ⟨hg, b, rfl, hb128, hb1, hb20, _⟩
  · have Hg := Lib.hid hg
    have HR := Lib.hid (goT_no (hasGoT_tree (n := N) hg))
    have HB := Lib.hid (hasGoT_tree (n := N) hg)
    clear hg
    rw [HR.out.1, HR.out.2, HB.out]
    go_enter Try.func43, Try.ntmps43
    go_wp2_with fail
    refine (specIsTree_is (hL.up (by go_grown)) (hR.up (by go_grown)) hm hm' Hg.out).mono ?_
    rintro e w1 ⟨rfl, hb1⟩
    have hU1 : Up w w1 := Up.then_ (by go_grown) hb1
    have hbr := (Blk.new_at (w := w.alloc (.cells #[.slice A m ca, .slice B m' cb] 59)) (t := 45) (cs := #[.int .i64 0, .slice none 0 0]) (g := w.heap.size + 1) (by simp)).up hb1
    have f0 := hbr.frozen 0
    have f1 := hbr.frozen 1
    have hyb := hbr.two
    have hfin := ((hbr.set_ 0 (.int .i64 0)).set_ 1 (.slice none 0 0)).two
    have hbf := (hU1.setCell (p := ⟨w.heap.size + 1, 0, none⟩) (by simp) (.int .i64 0)).setCell (p := ⟨w.heap.size + 1, 1, none⟩) (by simp) (.slice none 0 0)
    go_wp2
    generalize (w1.setCell ⟨w.heap.size + 1, 0, none⟩ (.int .i64 0)).setCell ⟨w.heap.size + 1, 1, none⟩ (.slice none 0 0) = Wf at hfin hbf ⊢
    refine bodyPost_ret (v := .tuple #[.agg #[.int .i64 0, .slice none 0 0], .bool false]) ?_ rfl ?_
    · simp [results, Try.results43, go_sem, hfin]
    exact ⟨none, 0, rfl, OwnI.nil_ _ _, hbf⟩
  · have Hg := Lib.hid hg
    clear hg
    by_cases hN : 1 ≤ N ∧ N ≤ 7
    rotate_left
    · have HR := Lib.hid (goT_no (hasGoT_num (B := ints b) (P := R) hN))
      have HB := Lib.hid (hasGoT_num (B := ints b) (P := R) hN)
      rw [HR.out.1, HR.out.2, HB.out]
      go_enter Try.func43, Try.ntmps43
      go_wp2_with fail
      refine (specIsTree_is (hL.up (by go_grown)) (hR.up (by go_grown)) hm hm' Hg.out).mono ?_
      rintro e w1 ⟨rfl, hb1⟩
      have hU1 : Up w w1 := Up.then_ (by go_grown) hb1
      have hbr := (Blk.new_at (w := w.alloc (.cells #[.slice A m ca, .slice B m' cb] 59)) (t := 45) (cs := #[.int .i64 0, .slice none 0 0]) (g := w.heap.size + 1) (by simp)).up hb1
      have f0 := hbr.frozen 0
      have f1 := hbr.frozen 1
      have hyb := hbr.two
      have hfin := ((hbr.set_ 0 (.int .i64 0)).set_ 1 (.slice none 0 0)).two
      have hbf := (hU1.setCell (p := ⟨w.heap.size + 1, 0, none⟩) (by simp) (.int .i64 0)).setCell (p := ⟨w.heap.size + 1, 1, none⟩) (by simp) (.slice none 0 0)
      go_wp2_with (go_at_call 57; refine ((l1In_no _ _ _ _ hN).mono fun _ _ h => And.intro h.1 h.2.symm).mono ?_; rintro e w' ⟨rfl, rfl⟩)
      generalize (w1.setCell ⟨w.heap.size + 1, 0, none⟩ (.int .i64 0)).setCell ⟨w.heap.size + 1, 1, none⟩ (.slice none 0 0) = Wf at hfin hbf ⊢
      refine bodyPost_ret (v := .tuple #[.agg #[.int .i64 0, .slice none 0 0], .bool false]) ?_ rfl ?_
      · simp [results, Try.results43, go_sem, hfin]
      exact ⟨none, 0, rfl, OwnI.nil_ _ _, hbf⟩
    · obtain ⟨n, rfl⟩ : ∃ n : Nat, N = n := ⟨N.toNat, by omega⟩
      have h1 : 1 ≤ n := by omega
      have h7 : n ≤ 7 := by omega
      have Hout := Lib.hid fun j (hj : j < b.length) (h : ¬ nb b j < 2 ^ n) => hasGoT_out (P := R) hj h
      have Hyes := Lib.hid fun h => hasGoT_yes (b := b) Hg.out h1 h7 h
      have HT := Lib.hid fun k h => tE_ok (n := n) (B := b) h1 h7 k h
      obtain rfl : m = b.length := by rw [← HL.out, ints_len]
      have H128 := Lib.hid hb128
      clear hb128
      go_enter Try.func43, Try.ntmps43
      go_wp2_with fail
      refine (specIsTree_is (hL.up (by go_grown)) (hR.up (by go_grown)) hm hm' Hg.out).mono ?_
      rintro e w1 ⟨rfl, hb1⟩
      have hU1 : Up w w1 := Up.then_ (by go_grown) hb1
      replace hL := hL.up hU1
      have hbt := ((Blk.new w 59 #[.slice A b.length ca, .slice B m' cb]).alloc (.cells #[.int .i64 0, .slice none 0 0] 45)).up hb1
      have hbr := (Blk.new_at (w := w.alloc (.cells #[.slice A b.length ca, .slice B m' cb] 59)) (t := 45) (cs := #[.int .i64 0, .slice none 0 0]) (g := w.heap.size + 1) (by simp)).up hb1
      have hmk := make_ints n (by omega)
      have hgn := (Blk.new w1 3 (natCells (tE n b 0))).alloc (.cells #[.int .i64 n, .slice (some ⟨w1.heap.size, 0, none⟩) n n] 45)
      have Hz : natCells (tE n b 0) = zeros n := by rw [tE, natCells_zero]
      have hb5 := Blk.new_at (w := w1.alloc (.cells (natCells (tE n b 0)) 3)) (t := 45) (cs := #[.int .i64 n, .slice (some ⟨w1.heap.size, 0, none⟩) n n]) (g := w1.heap.size + 1) (by simp)
      rw [Hz] at hgn hb5
      have hyt := fun o o' => ((hbt.alloc o).alloc o').two
      have hpp := p2_le h7
      obtain ⟨aL, rfl, _, _⟩ := hL.addr (by omega)
      go_wp2_with (go_at_call 57; refine (l1In_eq hN).mono ?_; rintro e w' ⟨rfl, rfl⟩)
      clear hmk hyt
      have hown0 : OwnI ((w1.alloc (.cells (zeros n) 3)).alloc (.cells #[.int .i64 n, .slice (some ⟨w1.heap.size, 0, none⟩) n n] 45)) w1.heap.size (some ⟨w1.heap.size, 0, none⟩) n n (ints (tE n b 0)) := by
        rw [← Hz] at hgn
        have := (show Blk ((w1.alloc (.cells (zeros n) 3)).alloc (.cells #[.int .i64 n, .slice (some ⟨w1.heap.size, 0, none⟩) n n] 45)) w1.heap.size 3 (natCells (tE n b 0)) by rw [Hz] at hgn ⊢; exact hgn).own (base := w1.heap.size) (n := n) (Nat.le_refl _) (by rw [natCells_size, tE]; simp) (by unfold maxLen; omega)
        exact this
      clear hgn
      go_loopw [7] (fun i wr => ∃ (k g d : Nat), k ≤ b.length ∧ i = .int .i64 k ∧ OwnI wr w1.heap.size (some ⟨g, 0, none⟩) n d (ints (tE n b k)) ∧ Blk wr (w1.heap.size + 1) 45 #[.int .i64 n, .slice (some ⟨g, 0, none⟩) n d] ∧ Below w1.heap.size w1 wr ∧ Hid (∀ j, j < k → nb b j < 2 ^ n)) (fun i _ => b.length - (intOf i).toNat)
      case atStart => exact ⟨0, _, _, Nat.zero_le _, rfl, hown0, hb5, by go_grown, fun j hj => absurd hj (by omega)⟩
      case round =>
        clear hown0 hb5
        obtain ⟨k, g, d, hk, rfl, hown, hb5, hb, hall⟩ := hrel
        obtain ⟨wo, rfl⟩ : ∃ wo : World, wo = wr := ⟨_, rfl⟩
        have hyt := (hbt.up hb).two
        by_cases hlt : k < b.length
        · have hcl := (hL.up hb).nbs hlt
          have h128 := H128.out k
          have hsh := shl_p2 (k := n) (by omega)
          by_cases hbag : nb b k < 2 ^ n
          · have HQ := Lib.hid (HT.out k hall.out)
            have HN := Lib.hid (show tE n b (k + 1) = qE (tE n b k) (listOf (nb b k)) (listOf (nb b k)).length from rfl)
            obtain ⟨Q, hQ⟩ : ∃ Q, Q = tE n b k := ⟨_, rfl⟩
            rw [← hQ] at hown HQ HN
            clear hQ
            obtain ⟨x, hx⟩ : ∃ x, x = nb b k := ⟨_, rfl⟩
            rw [← hx] at hcl h128 hbag HN
            have Hx := Lib.hid hx
            clear hx
            have HV := Lib.hid (listOf_verts hbag)
            have HB := Lib.hid hbag
            have hll := listOf_len x
            have hlp : x < p2 n := hbag
            have hge : decide ((p2 n : Int) ≤ (x : Int)) = false := decide_eq_false (by omega)
            obtain ⟨l, hl⟩ : ∃ l, l = listOf x := ⟨_, rfl⟩
            have Hl := Lib.hid hl
            rw [← hl] at HN hll HV
            have hg0 : OwnI wo w1.heap.size (some ⟨g, 0, none⟩) n d (ints (qE Q l 0)) := hown
            clear hbag hl hown
            go_wp2_with fail
            go_quiet (fail)
            have hcl2 : (wo.drewN 0).cell? (aL.add k) = some (.int .i64 x) := hcl
            clear hcl2
            go_wp2_with (go_at_call 80; refine (specListOf_any x _ (by omega)).mono ?_; intro e w3 hg3; obtain ⟨B3, d3, rfl, hown3, hb3⟩ := hg3.out; clear hg3; rw [← Hl.out] at hown3 ⊢)
            have hbase : w1.heap.size + 1 < wo.heap.size := by have := hb5.lt; omega
            have hL3 : OwnI w3 wo.heap.size B3 l.length d3 (ints l) := hown3
            have hgw3 : OwnI w3 w1.heap.size (some ⟨g, 0, none⟩) n d (ints (qE Q l 0)) := (hg0.drewN _).up hb3
            have hb53 : Blk w3 (w1.heap.size + 1) 45 #[.int .i64 n, .slice (some ⟨g, 0, none⟩) n d] := (hb5.drewN _).up hb3
            have hbw3 : Below w1.heap.size w1 w3 := Up.then_ (below_drewN hb _) hb3
            clear hown3 hg0 hb3
            go_loopw [9] (fun s wr => ∃ (i g d : Nat), i ≤ l.length ∧ s = .int .i64 i ∧ OwnI wr w1.heap.size (some ⟨g, 0, none⟩) n d (ints (qE Q l i)) ∧ Blk wr (w1.heap.size + 1) 45 #[.int .i64 n, .slice (some ⟨g, 0, none⟩) n d] ∧ Below w1.heap.size w1 wr ∧ OwnI wr wo.heap.size B3 l.length d3 (ints l)) (fun s _ => l.length - (intOf s).toNat)
            case atStart => exact ⟨0, _, _, Nat.zero_le _, rfl, hgw3, hb53, hbw3, hL3⟩
            case round =>
              clear hgw3 hb53 hbw3 hL3 hb5
              obtain ⟨i, g, d, hi, rfl, hown, hb5, hbi, hl3⟩ := hrel
              obtain ⟨wi, rfl⟩ : ∃ wi : World, wi = wr := ⟨_, rfl⟩
              by_cases hit : i < l.length
              · have HQi := Lib.hid (qE_ok HQ.out HV.out i hi)
                have HNi := Lib.hid (show qE Q l (i + 1) = pE (qE Q l i) l i i from rfl)
                obtain ⟨Qi, hQi⟩ : ∃ Qi, Qi = qE Q l i := ⟨_, rfl⟩
                rw [← hQi] at hown HQi HNi
                clear hQi
                have hown2 : OwnI wi w1.heap.size (some ⟨g, 0, none⟩) n d (ints (pE Qi l i 0)) := hown
                clear hown
                go_wp2_with fail
                go_loopw [10] (fun s wr => ∃ (j g d : Nat), j ≤ i ∧ s = .int .i64 j ∧ OwnI wr w1.heap.size (some ⟨g, 0, none⟩) n d (ints (pE Qi l i j)) ∧ Blk wr (w1.heap.size + 1) 45 #[.int .i64 n, .slice (some ⟨g, 0, none⟩) n d] ∧ Below w1.heap.size w1 wr ∧ OwnI wr wo.heap.size B3 l.length d3 (ints l)) (fun s _ => i - (intOf s).toNat)
                case atStart => exact ⟨0, _, _, Nat.zero_le _, rfl, hown2, hb5, hbi, hl3⟩
                case round =>
                  clear hown2 hb5 hbi hl3
                  obtain ⟨j, g, d, hj, rfl, hown, hb5, hbj, hl3⟩ := hrel
                  obtain ⟨wj, rfl⟩ : ∃ wj : World, wj = wr := ⟨_, rfl⟩
                  by_cases hjt : j < i
                  · have hjl : j < l.length := by omega
                    obtain ⟨ad, rfl, hcv⟩ := hl3.ri.nb_at hit
                    have hcx := hl3.ri.nbs hjl
                    have hP := Lib.hid (pE_ok HQi.out HV.out hit j hj)
                    have HS := Lib.hid (show pE Qi l i (j + 1) = addE (pE Qi l i j) (nb l i) (nb l j) from rfl)
                    obtain ⟨T, hT⟩ : ∃ T, T = pE Qi l i j := ⟨_, rfl⟩
                    rw [← hT] at hown hP HS
                    clear hT
                    have hvn := HV.out.at_ hit
                    have hxn := HV.out.at_ hjl
                    have hne : nb l i ≠ nb l j := fun e => by have := HV.out.inj hit hjl e; omega
                    obtain ⟨v, hv⟩ : ∃ v, v = nb l i := ⟨_, rfl⟩
                    rw [← hv] at hcv hvn hne HS
                    clear hv
                    obtain ⟨y, hy⟩ : ∃ y, y = nb l j := ⟨_, rfl⟩
                    rw [← hy] at hcx hxn hne HS
                    clear hy
                    have hyb := hb5.two
                    go_wp2_with fail
                    have hyb2 : wj.drew.cell? ⟨w1.heap.size + 1, 0, none⟩ = some (.int .i64 n) ∧ wj.drew.cell? ⟨w1.heap.size + 1, 1, none⟩ = some (.slice (some ⟨g, 0, none⟩) n d) := hyb
                    have hcv2 : wj.drew.cell? (ad.add i) = some (.int .i64 v) := hcv
                    have hcx2 : wj.drew.cell? (ad.add j) = some (.int .i64 y) := hcx
                    go_region_with (refine ((addEdge_ok ⟨g, 0, none⟩ n d v y T _ hown.drew.ri hP.out hvn hxn hne).mono fun e w' hg => hg.out (by rw [addE_len, hP.out.len]) (by omega)).mono ?_; rintro e w4 ⟨g', d', rfl, hown4, hb4⟩; have hb54 := hb5.drew.up hb4; have hyb4 := hb54.two; have f0 := hb54.frozen 0; have f1 := hb54.frozen 1)
                    all_goals
                      have hw4 := Up.then_ hbj.drew hb4
                      have hl4 := hl3.drew.up hb4
                      replace hown4 := hown4.more (base' := w1.heap.size) hbj.size
                      rw [← HS.out] at hown4
                      go_wp2_with fail
                      go_roundw
                      case rel => exact ⟨j + 1, g', d', by omega, by go_num, (hown4.other_store (i := 0) hb54 (by decide) (.int .i64 n)).other_store (i := 1) (hb54.set_ 0 (.int .i64 n)) (by decide) (.slice (some ⟨g', 0, none⟩) n d'), (hb54.set_ 0 (.int .i64 n)).set_ 1 (.slice (some ⟨g', 0, none⟩) n d'), (hw4.setCell (p := ⟨w1.heap.size + 1, 0, none⟩) (by simp) (.int .i64 n)).setCell (p := ⟨w1.heap.size + 1, 1, none⟩) (by simp) (.slice (some ⟨g', 0, none⟩) n d'), (hl4.other_store (i := 0) hb54 (by decide) (.int .i64 n)).other_store (i := 1) (hb54.set_ 0 (.int .i64 n)) (by decide) (.slice (some ⟨g', 0, none⟩) n d')⟩
                      case measure => simp [intOf]; omega
                  · obtain rfl : j = i := by omega
                    go_wp2
                    go_roundw
                    case rel => exact ⟨j + 1, g, d, by omega, by go_num, by rw [HNi.out]; exact hown, hb5, hbj, hl3⟩
                    case measure => simp [intOf]; omega
              · obtain rfl : i = l.length := by omega
                go_wp2
                go_roundw
                case rel => exact ⟨k + 1, g, d, by omega, by go_num, by rw [HN.out]; exact hown, hb5, hbi, fun i hi => by
                  rcases Nat.lt_succ_iff_lt_or_eq.1 hi with h' | rfl
                  · exact hall.out i h'
                  · rw [← Hx.out]; exact HB.out⟩
                case measure => simp [intOf]; omega
          · have hlp : p2 n ≤ nb b k := by unfold p2; omega
            have HO := Lib.hid (Hout.out k hlt hbag)
            have HG := Lib.hid (goT_no HO.out)
            rw [HG.out.1, HG.out.2, HO.out]
            obtain ⟨x, hx⟩ : ∃ x, x = nb b k := ⟨_, rfl⟩
            rw [← hx] at hcl h128 hlp
            clear hx hbag
            have hge : decide ((p2 n : Int) ≤ (x : Int)) = true := decide_eq_true (by omega)
            have hbr2 := hbr.up hb
            have f0 := fun k => (hbr2.drewN k).frozen 0
            have f1 := fun k => (hbr2.drewN k).frozen 1
            have hyr := fun k => (hbr2.drewN k).two
            go_wp2_with fail
            go_quiet (fail)
            have hfin := (((hbr2.drewN nq).set_ 0 (.int .i64 0)).set_ 1 (.slice none 0 0)).two
            have hbf := ((below_drewN (Up.then_ hU1 hb) nq).setCell (p := ⟨w.heap.size + 1, 0, none⟩) (by simp) (.int .i64 0)).setCell (p := ⟨w.heap.size + 1, 1, none⟩) (by simp) (.slice none 0 0)
            go_wp2_with fail
            generalize ((wo.drewN nq).setCell ⟨w.heap.size + 1, 0, none⟩ (.int .i64 0)).setCell ⟨w.heap.size + 1, 1, none⟩ (.slice none 0 0) = Wf at hfin hbf ⊢
            refine bodyPost_ret (v := .tuple #[.agg #[.int .i64 0, .slice none 0 0], .bool false]) ?_ rfl ?_
            · simp [results, Try.results43, go_sem, hfin]
            exact ⟨none, 0, rfl, OwnI.nil_ _ _, hbf⟩
        · obtain rfl : k = b.length := by omega
          have HG := Lib.hid (Hyes.out hall.out)
          have HQ := Lib.hid (HT.out _ hall.out)
          have hbr2 := hbr.up hb
          have f0 := hbr2.frozen 0
          have f1 := hbr2.frozen 1
          have hyr := hbr2.two
          have hlr := hbr2.lt
          have hyb := hb5.two
          have hw2 := Up.then_ hU1 hb
          have hfin := ((hbr2.set_ 0 (.int .i64 n)).set_ 1 (.slice (some ⟨g, 0, none⟩) n d)).two
          have hof := (hown.other_store (i := 0) hbr2 (by decide) (.int .i64 n)).other_store (i := 1) (hbr2.set_ 0 (.int .i64 n)) (by decide) (.slice (some ⟨g, 0, none⟩) n d)
          have hbf := (hw2.setCell (p := ⟨w.heap.size + 1, 0, none⟩) (by simp) (.int .i64 n)).setCell (p := ⟨w.heap.size + 1, 1, none⟩) (by simp) (.slice (some ⟨g, 0, none⟩) n d)
          go_wp2
          generalize (wo.setCell ⟨w.heap.size + 1, 0, none⟩ (.int .i64 n)).setCell ⟨w.heap.size + 1, 1, none⟩ (.slice (some ⟨g, 0, none⟩) n d) = Wf at hfin hof hbf ⊢
          refine bodyPost_ret (v := .tuple #[.agg #[.int .i64 n, .slice (some ⟨g, 0, none⟩) n d], .bool true]) ?_ rfl ?_
          · simp [results, Try.results43, go_sem, hfin]
          rw [HG.out.1, HG.out.2.1, HG.out.2.2]
          exact givesGB_of HQ.out.len hof hU1.size hbf
end Go.Proofs.Ytfodbgogeclifaa
