/- Walks of chapter 10: the model of an order of sets. -/
import Derived.Test.YtnaoomchekhcgaaSlf
import Derived.Test.YtnaoomchekhcgaaGives
import Derived.Test.YtnaoomchekhcgaaPure10
import Derived.Test.YtnaoomchekhcgaaApp2
import Derived.Deep.RegionLaw
namespace Go.Proofs.Ytnaoomchekhcgaa
open Go.RowKit
theorem givesTB_none {w w' : World} (hb : Below w.heap.size w w') : GivesTB [] [] false w (.returned (.tuple #[.agg #[.slice none 0 0, .slice none 0 0], .bool false])) w' :=
  ⟨none, 0, none, 0, rfl, OwnI.nil_ _ _, OwnI.nil_ _ _, (fun j h => by cases h), hb⟩
theorem slContainsFunc_is10 {f : FuncId} {caps : Array Value} (p : Int → Bool) {b : Bool} {A : Option Addr} {n c : Nat} {xs : List Int} {w : World} (hz : xs.any p = b) (hA : RI w A n xs) (hn : n ≤ 9223372036854775807) (he : EntersF f)
    (hp : ∀ j, j < n → ∀ w', Up w w' → Calls Try.prog f (#[.int .i64 (xs.getD j 0)] ++ caps) w' fun e w'' => e = .returned (.bool (p (xs.getD j 0))) ∧ Below w'.heap.size w' w'') :
    Calls Try.prog 84 #[.slice A n c, .func (.func f) #[] caps] w fun e w' => e = .returned (.bool b) ∧ Below w.heap.size w w' := by
  subst hz; exact slContainsFunc_any f caps p A n c xs w hA hn he hp
theorem mo1_any (x : Int) (n bn : Nat) (w : World) (hn : n ≤ 7) (hN : Blk w bn 3 #[.int .i64 (n : Int)]) :
    Calls Try.prog 85 #[.int .i64 x, .pointer (some ⟨bn, 0, none⟩)] w fun e w' => e = .returned (.bool (noSet n x)) ∧ Below w.heap.size w w' := by
  have hy := hN.one
  have hsh := shl_p2 (k := n) (by omega)
  have hpp := p2_le hn
  have hp1 := p2_pos n
  have hsub : wrap64 ((p2 n : Int) - 1) = ((p2 n : Int) - 1) := IntWalk.wrap64_in _ ⟨by omega, by omega⟩
  have HS := Lib.hid (show (!decide (0 ≤ x) || !decide (x ≤ ((p2 n : Int) - 1))) = noSet n x by
    rw [noSet, Bool.not_and]
    have : decide (x ≤ ((p2 n : Int) - 1)) = decide (x < ((2 ^ n : Nat) : Int)) := decide_eq_decide.2 (by show _ ↔ x < (p2 n : Int); omega)
    rw [this])
  go_enter Try.func85, Try.ntmps85
  go_wp2_with (go_at_call 83; refine (within_any _ _ _ _).mono ?_; rintro e w1 ⟨rfl, rfl⟩)
  go_ret
  exact ⟨ret_bool HS.out, Below.refl _ _⟩
theorem mo2_any (s v bv : Nat) (w : World) (hs : s < 128) (hv : v ≤ 62) (hV : Blk w bv 3 #[.int .i64 (v : Int)]) :
    Calls Try.prog 87 #[.int .i64 s, .pointer (some ⟨bv, 0, none⟩)] w fun e w' => e = .returned (.bool (s.testBit v)) ∧ Below w.heap.size w w' := by
  have hy := hV.one
  go_enter Try.func87, Try.ntmps87
  go_wp2_with (go_at_call 79; refine (has_nat s v _ (by omega) hv).mono ?_; rintro e w1 ⟨rfl, rfl⟩)
  go_ret
  exact ⟨rfl, Below.refl _ _⟩
theorem idxF_fst {o : List Nat} {v m : Nat} (hm : o.length = m) : idxF (fun z => z.toNat.testBit v) (ints o) = fstB o v m := by
  subst hm
  rcases fstB_cases o v o.length with ⟨h1, _, h3⟩ | ⟨i, h1, h2, h3, h4, _⟩
  · rw [h1]
    exact idxF_none fun j hj => by rw [ints_nb, Int.toNat_natCast]; exact h3 j (by rwa [ints_len] at hj)
  · rw [h2]
    exact idxF_at (by rwa [ints_len]) (by rw [ints_nb, Int.toNat_natCast]; exact h3) fun j hj => by rw [ints_nb, Int.toNat_natCast]; exact h4 j hj
theorem slIndexFunc_is10 {f : FuncId} {caps : Array Value} (p : Int → Bool) {z : Int} {A : Option Addr} {n c : Nat} {xs : List Int} {w : World} (hz : idxF p xs = z) (hA : RI w A n xs) (hn : n ≤ 9223372036854775807) (he : EntersF f)
    (hp : ∀ j, j < n → ∀ w', Up w w' → Calls Try.prog f (#[.int .i64 (xs.getD j 0)] ++ caps) w' fun e w'' => e = .returned (.bool (p (xs.getD j 0))) ∧ Below w'.heap.size w' w'') :
    Calls Try.prog 86 #[.slice A n c, .func (.func f) #[] caps] w fun e w' => e = .returned (.int .i64 z) ∧ Below w.heap.size w w' := by
  subst hz; exact slIndexFunc_any f caps p A n c xs w hA hn he hp
set_option maxRecDepth 100000 in
set_option maxHeartbeats 4000000 in
theorem implModelOfOrder_any (A : Option Addr) (m c : Nat) (l : List Int) (N : Int) (w : World) (hL : RI w A m l) (hm : m ≤ 1048576) :
    Calls Try.prog 57 #[.slice A m c, .int .i64 N] w (GivesTB (moL l N) (moR l N) (hasMo l N) w) := by
  have HL := Lib.hid hL.1
  have hbr := (Blk.new_at (w := w.alloc (.cells #[.int .i64 N] 3)) (t := 44) (cs := #[.slice none 0 0, .slice none 0 0]) (g := w.heap.size + 1) (by simp))
  have hbn := (Blk.new w 3 #[.int .i64 N]).alloc (.cells #[.slice none 0 0, .slice none 0 0] 44)
  have hU0 : Up w ((w.alloc (.cells #[.int .i64 N] 3)).alloc (.cells #[.slice none 0 0, .slice none 0 0] 44)) := by go_grown
  by_cases hN : 1 ≤ N ∧ N ≤ 7
  rotate_left
  · have HB := Lib.hid (hasMo_arg (moArg_num (l := l) hN))
    have HR := Lib.hid (mo_no HB.out)
    rw [HR.out.1, HR.out.2, HB.out]
    go_enter Try.func57, Try.ntmps57
    have f0 := hbr.frozen 0
    have f1 := hbr.frozen 1
    have hyb := hbr.two
    have hyn := hbn.one
    go_wp2_with (go_at_call 83; refine ((within_no _ _ _ _ hN).mono fun _ _ h => And.intro h.1 h.2.symm).mono ?_; rintro e w' ⟨rfl, rfl⟩)
    refine bodyPost_ret (v := .tuple #[.agg #[.slice none 0 0, .slice none 0 0], .bool false]) ?_ rfl ?_
    · simp [results, Try.results57, go_sem]
    exact givesTB_none hU0
  obtain ⟨n, rfl⟩ : ∃ n : Nat, N = n := ⟨N.toNat, by omega⟩
  by_cases hm20 : 1 ≤ (l.length : Int) ∧ (l.length : Int) ≤ 20
  rotate_left
  · have HB := Lib.hid (hasMo_arg (moArg_len (n := (n : Int)) hm20))
    have HR := Lib.hid (mo_no HB.out)
    rw [HR.out.1, HR.out.2, HB.out]
    rw [HL.out] at hm20
    go_enter Try.func57, Try.ntmps57
    have f0 := hbr.frozen 0
    have f1 := hbr.frozen 1
    have hyb := hbr.two
    have hyn := hbn.one
    go_wp2_with (first | (go_at_call_of 83 (Value.int .i64 (n : Int)); refine ((within_yes _ _ _ _ hN).mono fun _ _ h => And.intro h.1 h.2.symm).mono ?_; rintro e w' ⟨rfl, rfl⟩) | (go_at_call_of 83 (Value.int .i64 (m : Int)); refine ((within_no _ _ _ _ hm20).mono fun _ _ h => And.intro h.1 h.2.symm).mono ?_; rintro e w' ⟨rfl, rfl⟩))
    refine bodyPost_ret (v := .tuple #[.agg #[.slice none 0 0, .slice none 0 0], .bool false]) ?_ rfl ?_
    · simp [results, Try.results57, go_sem]
    exact givesTB_none hU0
  have h1 : 1 ≤ n := by omega
  have h7 : n ≤ 7 := by omega
  have hm1 : 1 ≤ m := by rw [HL.out] at hm20; omega
  have hml : m ≤ 20 := by rw [HL.out] at hm20; omega
  have hent1 := entersF (f := 85) Try.func85 rfl rfl
  have hany := moArg_any (l := l) h1 h7 (by omega) (by omega)
  rw [HL.out] at hm20
  have P1 : ∀ (w2 : World), Up ((w.alloc (.cells #[.int .i64 (n : Int)] 3)).alloc (.cells #[.slice none 0 0, .slice none 0 0] 44)) w2 → ∀ j, j < m → ∀ w', Up w2 w' → Calls Try.prog 85 (#[.int .i64 (l.getD j 0)] ++ #[.pointer (some ⟨w.heap.size, 0, none⟩)]) w' fun e w'' => e = .returned (.bool (noSet n (l.getD j 0))) ∧ Below w'.heap.size w' w'' :=
    fun w2 hU2 j _ w' hU' => mo1_any (l.getD j 0) n w.heap.size w' h7 (hbn.up (Up.then_ hU2 hU'))
  have HP1 := Lib.hid P1
  clear P1
  rcases Bool.eq_false_or_eq_true (l.any (noSet n)) with hno | hno
  · have HB := Lib.hid (hasMo_arg (l := l) (n := (n : Int)) (by rw [hany, hno]; rfl))
    have HR := Lib.hid (mo_no HB.out)
    have HNo := Lib.hid hno
    rw [HR.out.1, HR.out.2, HB.out]
    clear hno hany
    go_enter Try.func57, Try.ntmps57
    have hyb := hbr.two
    have hyn := hbn.one
    go_wp2_with (first | (go_at_call_of 83 (Value.int .i64 (n : Int)); refine ((within_yes _ _ _ _ hN).mono fun _ _ h => And.intro h.1 h.2.symm).mono ?_; rintro e w' ⟨rfl, rfl⟩) | (go_at_call_of 83 (Value.int .i64 (m : Int)); refine ((within_yes _ _ _ _ hm20).mono fun _ _ h => And.intro h.1 h.2.symm).mono ?_; rintro e w' ⟨rfl, rfl⟩) | (go_at_call 84; refine (slContainsFunc_is10 (noSet n) HNo.out (hL.up hU0) (by omega) hent1 (HP1.out _ (Up.refl _))).mono ?_; rintro e w3 ⟨rfl, hb3⟩; have hbr3 := hbr.up hb3; have hy3 := hbr3.two; have f30 := hbr3.frozen 0; have f31 := hbr3.frozen 1; have hU3 := Up.then_ hU0 hb3))
    have hfin := ((hbr3.set_ 0 (.slice none 0 0)).set_ 1 (.slice none 0 0)).two
    have hbf := (hU3.setCell (p := ⟨w.heap.size + 1, 0, none⟩) (by simp) (.slice none 0 0)).setCell (p := ⟨w.heap.size + 1, 1, none⟩) (by simp) (.slice none 0 0)
    generalize (w3.setCell ⟨w.heap.size + 1, 0, none⟩ (.slice none 0 0)).setCell ⟨w.heap.size + 1, 1, none⟩ (.slice none 0 0) = Wf at hfin hbf ⊢
    refine bodyPost_ret (v := .tuple #[.agg #[.slice none 0 0, .slice none 0 0], .bool false]) ?_ rfl ?_
    · simp [results, Try.results57, go_sem, hfin]
    exact givesTB_none hbf
  · have harg : moArg l n = true := by rw [hany, hno]; rfl
    have HNo := Lib.hid hno
    obtain ⟨n', o, e1, rfl, _, _, _, _, hlt⟩ := moArg_spec harg
    obtain rfl : n = n' := by omega
    have hol : o.length = m := by rw [← HL.out, ints_len]
    have Hout := Lib.hid fun v (hv : v < n) (h : fstB o v o.length < 0) => hasMo_out harg hv h
    have Hyes := Lib.hid fun h => mo_ok (o := o) harg h
    have Hcs := Lib.hid fun v => fstB_cases o v m
    have Hlt := Lib.hid hlt
    have Hol := Lib.hid hol
    have hent2 := entersF (f := 87) Try.func87 rfl rfl
    clear hno hany harg e1 hlt hol
    go_enter Try.func57, Try.ntmps57
    have hyb := hbr.two
    have hyn := hbn.one
    go_wp2_with (first | (go_at_call_of 83 (Value.int .i64 (n : Int)); refine ((within_yes _ _ _ _ hN).mono fun _ _ h => And.intro h.1 h.2.symm).mono ?_; rintro e w' ⟨rfl, rfl⟩) | (go_at_call_of 83 (Value.int .i64 (m : Int)); refine ((within_yes _ _ _ _ hm20).mono fun _ _ h => And.intro h.1 h.2.symm).mono ?_; rintro e w' ⟨rfl, rfl⟩) | (go_at_call 84; refine (slContainsFunc_is10 (noSet n) HNo.out (hL.up hU0) (by omega) hent1 (HP1.out _ (Up.refl _))).mono ?_; rintro e w3 ⟨rfl, hb3⟩; have hbr3 := hbr.up hb3; have hy3 := hbr3.two; have f30 := hbr3.frozen 0; have f31 := hbr3.frozen 1; have hU3 := Up.then_ hU0 hb3; have hyn3 := fun o => ((hbn.up hb3).alloc o).one))
    have hbn3 := hbn.up hb3
    obtain ⟨W1, hW1⟩ : ∃ W1, W1 = w3.alloc (.cells #[.slice none 0 0, .slice none 0 0] 44) := ⟨_, rfl⟩
    have hbm : Blk W1 w3.heap.size 44 #[.slice none 0 0, .slice none 0 0] := by rw [hW1]; exact Blk.new _ _ _
    have hU31 : Up w3 W1 := by rw [hW1]; go_grown
    rw [← hW1]
    clear hyb hyn hbr hbn hyn3 hW1 hy3 f30 f31 HP1
    have hbn1 := hbn3.up hU31
    have hbr1 := hbr3.up hU31
    have hUW := Up.then_ hU3 hU31
    have hsz3 : w.heap.size + 1 < w3.heap.size := hbr3.lt
    obtain ⟨bm, hbmE⟩ : ∃ bm, bm = w3.heap.size := ⟨_, rfl⟩
    rw [← hbmE] at hbm hsz3 ⊢
    have hlm := hbm.lt
    clear hbmE hU31 hU3 hb3 hbn3 hbr3
    go_loopw [28] (fun s wr => ∃ (k : Nat) (A1 B1 : Option Addr) (c1 d1 : Nat), k ≤ n ∧ s = .int .i64 k ∧ OwnI wr bm A1 k c1 (moF o k) ∧ OwnI wr bm B1 k d1 (moG o k) ∧ (∀ j, (Value.slice A1 k c1).ownBlock = some j → (Value.slice B1 k d1).ownBlock ≠ some j) ∧ Blk wr bm 44 #[.slice A1 k c1, .slice B1 k d1] ∧ Below bm W1 wr ∧ Hid (∀ v, v < k → 0 ≤ fstB o v o.length)) (fun s _ => n - (intOf s).toNat)
    case atStart => exact ⟨0, none, none, 0, 0, Nat.zero_le _, rfl, OwnI.nil_ _ _, OwnI.nil_ _ _, (fun j h => by cases h), hbm, Below.refl _ _, fun v hv => absurd hv (by omega)⟩
    case round =>
      clear hbm
      obtain ⟨k, A1, B1, c1, d1, hk, rfl, hownA, hownB, hne, hbm, hb, hpos⟩ := hrel
      obtain ⟨wo, rfl⟩ : ∃ wo : World, wo = wr := ⟨_, rfl⟩
      have hUo : Up w wo := hUW.trans (hb.mono (by omega))
      by_cases hkn : k < n
      · have hbv := Blk.new wo 3 #[.int .i64 (k : Int)]
        have hI := Lib.hid (idxF_fst (v := k) Hol.out)
        have hLo := hL.up hUo
        have P2 : ∀ j, j < m → ∀ w', Up (wo.alloc (.cells #[.int .i64 (k : Int)] 3)) w' → Calls Try.prog 87 (#[.int .i64 ((ints o).getD j 0)] ++ #[.pointer (some ⟨wo.heap.size, 0, none⟩)]) w' fun e w'' => e = .returned (.bool (((ints o).getD j 0).toNat.testBit k)) ∧ Below w'.heap.size w' w'' := by
          intro j hj w' hU'
          rw [ints_nb, Int.toNat_natCast]
          exact mo2_any (nb o j) k _ w' (by have := Hlt.out j; have := pow_le7 h7; omega) (by omega) (hbv.up hU')
        have HP2 := Lib.hid P2
        clear P2
        rcases Hcs.out k with ⟨hf, _, _⟩ | ⟨i, him, hf, hbi, _, hla⟩
        · have HO := Lib.hid (Hout.out k hkn (by rw [Hol.out, hf]; omega))
          have HG := Lib.hid (mo_no HO.out)
          rw [HG.out.1, HG.out.2, HO.out]
          rw [hf] at hI
          clear hf
          go_wp2_with (go_at_call 86; refine (slIndexFunc_is10 (fun z => z.toNat.testBit k) hI.out (hLo.up (by go_grown)) (by omega) hent2 HP2.out).mono ?_; rintro e w4 ⟨rfl, hb4⟩; have hU4 : Up wo w4 := Up.then_ (by go_grown) hb4; have hbr4 := (hbr1.below hb (by omega)).up hU4; have hy4 := hbr4.two; have f40 := hbr4.frozen 0; have f41 := hbr4.frozen 1)
          have hU5 : Up w w4 := Up.then_ hUo hU4
          have hfin := ((hbr4.set_ 0 (.slice none 0 0)).set_ 1 (.slice none 0 0)).two
          have hbf := (hU5.setCell (p := ⟨w.heap.size + 1, 0, none⟩) (by simp) (.slice none 0 0)).setCell (p := ⟨w.heap.size + 1, 1, none⟩) (by simp) (.slice none 0 0)
          generalize (w4.setCell ⟨w.heap.size + 1, 0, none⟩ (.slice none 0 0)).setCell ⟨w.heap.size + 1, 1, none⟩ (.slice none 0 0) = Wf at hfin hbf ⊢
          refine bodyPost_ret (v := .tuple #[.agg #[.slice none 0 0, .slice none 0 0], .bool false]) ?_ rfl ?_
          · simp [results, Try.results57, go_sem, hfin]
          exact givesTB_none hbf
        · go_wp2_with (go_at_call 86; refine (slIndexFunc_is10 (fun z => z.toNat.testBit k) (hI.out.trans hf) (hLo.up (by go_grown)) (by omega) hent2 HP2.out).mono ?_; rintro e w4 ⟨rfl, hb4⟩; have hU4 : Up wo w4 := Up.then_ (by go_grown) hb4)
          have hbv4 := hbv.up hb4
          have hla2 := Lib.hid hla
          clear hla hbv hI
          go_loopw [9, 10] (fun x s wr => ∃ j : Nat, i ≤ j ∧ j ≤ m ∧ s = .int .i64 j ∧ x = .int .i64 (lstB o k (max j (i + 1))) ∧ Up w4 wr) (fun _ s _ => m - (intOf s).toNat)
          case atStart => exact ⟨i, Nat.le_refl _, by omega, rfl, by rw [show max i (i + 1) = i + 1 by omega, hla2.out], Up.refl _⟩
          case round =>
            obtain ⟨j, hij, hjm, rfl, rfl, hbj⟩ := hrel
            obtain ⟨wi, rfl⟩ : ∃ wi : World, wi = wr := ⟨_, rfl⟩
            by_cases hjt : j < m
            · obtain ⟨a, rfl, hcl⟩ := ((hLo.up hU4).up hbj).nb_at hjt
              have hyv := (hbv4.up hbj).one
              have hS := Lib.hid (show lstB o k (max (j + 1) (i + 1)) = if (nb o j).testBit k then (j : Int) else lstB o k (max j (i + 1)) by
                by_cases e : i = j
                · subst e
                  rw [show max (i + 1) (i + 1) = i + 1 by omega, show max i (i + 1) = i + 1 by omega, hla2.out, if_pos hbi]
                · rw [show max (j + 1) (i + 1) = j + 1 by omega, show max j (i + 1) = j by omega, lstB])
              have hxl : nb o j < 128 := by have := Hlt.out j; have := pow_le7 h7; omega
              obtain ⟨x, hx⟩ : ∃ x, x = nb o j := ⟨_, rfl⟩
              rw [← hx] at hcl hS hxl
              clear hx
              obtain ⟨y, hy⟩ : ∃ y, y = lstB o k (max j (i + 1)) := ⟨_, rfl⟩
              rw [← hy] at hS ⊢
              clear hy
              rcases Bool.eq_false_or_eq_true (x.testBit k) with e1 | e1
              · have H1 := Lib.hid e1
                rw [e1, if_pos rfl] at hS
                clear e1
                go_wp2_with fail
                go_quiet ((go_at_call 79; exact Calls.quiet_of_same (has_is (by omega) (by omega) H1.out)))
                go_wp2
                go_roundw
                case rel => exact ⟨j + 1, by omega, by omega, by go_num, by rw [hS.out], below_drewN hbj _⟩
                case measure => simp [intOf]; omega
              · have H1 := Lib.hid e1
                rw [e1, if_neg Bool.false_ne_true] at hS
                clear e1
                go_wp2_with fail
                go_quiet ((go_at_call 79; exact Calls.quiet_of_same (has_is (by omega) (by omega) H1.out)))
                go_wp2
                go_roundw
                case rel => exact ⟨j + 1, by omega, by omega, by go_num, by rw [hS.out], below_drewN hbj _⟩
                case measure => simp [intOf]; omega
            · obtain rfl : j = m := by omega
              rw [show max j (i + 1) = j by omega]
              have hbo := Up.then_ hU4 hbj
              have hbm2 := hbm.up hbo
              have hA2 := hownA.up hbo
              have hB2 := hownB.up hbo
              have hym := hbm2.two
              have hlm2 := hbm2.lt
              have T0 := Two.start (W := wi.drew) (base := bm) hA2.drew hB2.drew hne
              have hx0 := hbm2.drew.two
              have hx1 := fun o => (hbm2.alloc o).two
              have hx2 := fun o o' => ((hbm2.alloc o).alloc o').two
              have hna : some bm ≠ (Value.slice A1 k c1).ownBlock := Ne.symm (own_blk_ne (e := 3) hA2 hbm2 (by decide))
              have hnb : some bm ≠ (Value.slice B1 k d1).ownBlock := Ne.symm (own_blk_ne (e := 3) hB2 hbm2 (by decide))
              have hga : ∀ g, wi.heap.size ≤ g → some g ≠ (Value.slice A1 k c1).ownBlock := fun g hg e => by have := (hA2.block g e.symm).2; omega
              have hgb : ∀ g, wi.heap.size ≤ g → some g ≠ (Value.slice B1 k d1).ownBlock := fun g hg e => by have := (hB2.block g e.symm).2; omega
              have hsz2 := hbm2.lt
              clear hbm hA2 hB2 hownA hownB hne
              obtain ⟨y, hy⟩ : ∃ y, y = lstB o k j := ⟨_, rfl⟩
              rw [← hy]
              have eF := Lib.hid (show List.map (Value.int .i64) (moF o k) ++ [.int .i64 (i : Int)] = List.map (Value.int .i64) (moF o (k + 1)) by rw [moF_succ, List.map_append, Hol.out, hf]; rfl)
              have eG := Lib.hid (show List.map (Value.int .i64) (moG o k) ++ [.int .i64 y] = List.map (Value.int .i64) (moG o (k + 1)) by rw [moG_succ, List.map_append, Hol.out, hy]; rfl)
              have hbwi := Lib.hid (hb.trans (hbo.mono (Nat.le_trans (Nat.le_of_lt hlm) hb.size))).drew
              have hpos2 := Lib.hid (show ∀ v, v < k + 1 → 0 ≤ fstB o v o.length from fun v hv => by
                rcases Nat.lt_succ_iff_lt_or_eq.1 hv with h' | rfl
                · exact hpos.out v h'
                · rw [Hol.out, hf]; omega)
              have hra := Lib.hid (show ∀ k', (Value.slice A1 k c1).ownBlock = some k' → bm ≤ k' from fun k' e => (T0.fa k' e).elim (fun e => (World.ownsRow.lt T0.a k' e).1) fun h => Nat.le_trans (Nat.le_of_lt hsz2) h)
              have hrb := Lib.hid (show ∀ k', (Value.slice B1 k d1).ownBlock = some k' → bm ≤ k' from fun k' e => (T0.fb k' e).elim (fun e => (World.ownsRow.lt T0.b k' e).1) fun h => Nat.le_trans (Nat.le_of_lt hsz2) h)
              clear hy hL hLo hUo hUW hb hbo hbj hbv4 hbr1 hbn1 hU4 hb4 hbi hf hlm hpos hlm2 hU0 hla2 Hcs Hlt Hout Hyes HP2 HNo hent1 hent2 HL Hol h1 hm
              go_wp2_with fail
              go_region_law (first
                | (refine stepA_int rfl (.tmp 53) (.tmp 55) rfl (i : Int) rfl (by first | exact T8 | exact T8.alloc _) _ rfl (by first | exact cell_lit rfl | exact cell_lit (by simp) | exact cell_lit4 hg8 rfl (hgb _ (by simp)) | exact cell_lit4 hg8 (by simp) (hgb _ (by simp)) | exact cell_lit5 hg8 rfl (hgb _ (by simp)) | exact cell_lit5 hg8 (by simp) (hgb _ (by simp))) (by omega) (by simp; omega) ?_; intro A7 c7 w7 T9 hg9; have hx9 := (T9.blk hbm2.drew hna hnb).two; have f90 := (T9.blk hbm2.drew hna hnb).frozen 0; have f91 := (T9.blk hbm2.drew hna hnb).frozen 1)
                | (refine stepB_int rfl (.tmp 58) (.tmp 60) rfl y rfl (by first | exact T7 | exact T7.alloc _) _ rfl (by first | exact cell_lit rfl | exact cell_lit (by simp) | exact cell_lit4 hg7 rfl (hga _ (by simp)) | exact cell_lit4 hg7 (by simp) (hga _ (by simp)) | exact cell_lit5 hg7 rfl (hga _ (by simp)) | exact cell_lit5 hg7 (by simp) (hga _ (by simp))) (by omega) (by simp; omega) ?_; intro B8 d8 w7 T9 hg9; have hx9 := (T9.blk hbm2.drew hna hnb).two; have f90 := (T9.blk hbm2.drew hna hnb).frozen 0; have f91 := (T9.blk hbm2.drew hna hnb).frozen 1)
                | (refine stepA_int rfl (.tmp 53) (.tmp 55) rfl (i : Int) rfl (by first | exact T0.alloc _ | exact (T0.alloc _).alloc _) _ rfl (by first | exact cell_lit rfl | exact cell_lit (by simp) | exact cell_lit1 rfl | exact cell_lit1 (by simp)) (by omega) (by simp; omega) ?_; intro A7 c7 w7 T7 hg7; have hx7 := (T7.blk hbm2.drew hna hnb).two; have hx77 := fun o => ((T7.blk hbm2.drew hna hnb).alloc o).two)
                | (refine stepB_int rfl (.tmp 58) (.tmp 60) rfl y rfl (by first | exact T0.alloc _ | exact (T0.alloc _).alloc _) _ rfl (by first | exact cell_lit rfl | exact cell_lit (by simp) | exact cell_lit1 rfl | exact cell_lit1 (by simp)) (by omega) (by simp; omega) ?_; intro B8 d8 w7 T8 hg8; have hx8 := (T8.blk hbm2.drew hna hnb).two; have hx88 := fun o => ((T8.blk hbm2.drew hna hnb).alloc o).two))
              all_goals
                have hA9 : OwnI w7 bm A7 (k + 1) c7 (moF o (k + 1)) := by unfold OwnI; rw [← eF.out]; exact T9.a
                have hB9 : OwnI w7 bm B8 (k + 1) d8 (moG o (k + 1)) := by unfold OwnI; rw [← eG.out]; exact T9.b
                have hn9 := T9.ne
                have hbm9 := T9.blk hbm2.drew hna hnb
                have hw9 := T9.below hbwi.out hra.out hrb.out (Nat.le_of_lt hsz2)
                clear T9
                go_wp2_with fail
                go_roundw
                case rel => exact ⟨k + 1, A7, B8, c7, d8, by omega, by go_num, (hA9.other_store (i := 0) hbm9 (by decide) _).other_store (i := 1) (hbm9.set_ 0 _) (by decide) _, (hB9.other_store (i := 0) hbm9 (by decide) _).other_store (i := 1) (hbm9.set_ 0 _) (by decide) _, hn9, (hbm9.set_ 0 _).set_ 1 _, (hw9.setCell (p := ⟨bm, 0, none⟩) (Nat.le_refl _) _).setCell (p := ⟨bm, 1, none⟩) (Nat.le_refl _) _, hpos2⟩
                case measure => simp [intOf]; omega
      · obtain rfl : k = n := by omega
        have HG := Lib.hid (Hyes.out (moAll_yes k hpos.out))
        have hbr2 := (hbr1.below hb (by omega))
        have f0 := hbr2.frozen 0
        have f1 := hbr2.frozen 1
        have hyr := hbr2.two
        have hym := hbm.two
        have hlr := hbr2.lt
        have hfin := ((hbr2.set_ 0 (.slice A1 k c1)).set_ 1 (.slice B1 k d1)).two
        have hoA := (hownA.other_store (i := 0) hbr2 (by decide) (.slice A1 k c1)).other_store (i := 1) (hbr2.set_ 0 (.slice A1 k c1)) (by decide) (.slice B1 k d1)
        have hoB := (hownB.other_store (i := 0) hbr2 (by decide) (.slice A1 k c1)).other_store (i := 1) (hbr2.set_ 0 (.slice A1 k c1)) (by decide) (.slice B1 k d1)
        have hbf := (hUo.setCell (p := ⟨w.heap.size + 1, 0, none⟩) (by simp) (.slice A1 k c1)).setCell (p := ⟨w.heap.size + 1, 1, none⟩) (by simp) (.slice B1 k d1)
        go_wp2
        generalize (wo.setCell ⟨w.heap.size + 1, 0, none⟩ (.slice A1 k c1)).setCell ⟨w.heap.size + 1, 1, none⟩ (.slice B1 k d1) = Wf at hfin hoA hoB hbf ⊢
        refine bodyPost_ret (v := .tuple #[.agg #[.slice A1 k c1, .slice B1 k d1], .bool true]) ?_ rfl ?_
        · simp [results, Try.results57, go_sem, hfin]
        rw [HG.out.1, HG.out.2.1, HG.out.2.2]
        have eA := moF_len o k
        have eB := moG_len o k
        exact ⟨A1, c1, B1, d1, by rw [eA, eB], (hoA.cast eA.symm rfl).more (by omega), (hoB.cast eB.symm rfl).more (by omega), (fun j h1 h2 => hne j (by rw [eA] at h1; exact h1) (by rw [eB] at h2; exact h2)), hbf⟩
end Go.Proofs.Ytnaoomchekhcgaa
