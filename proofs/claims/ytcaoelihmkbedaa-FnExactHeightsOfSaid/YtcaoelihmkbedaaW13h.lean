/- Walks of chapter 13: heights. -/
import Derived.Test.YtcaoelihmkbedaaW13c
import Derived.Test.YtcaoelihmkbedaaPure13h
import Derived.StillTailTactics
namespace Go.Proofs.Ytcaoelihmkbedaa
open Go.RowKit
/-- A row of numbers as cells. -/
def natCells (o : List Nat) : Array Value := ((ints o).map (Value.int .i64)).toArray
theorem natCells_get {o : List Nat} {j : Nat} (h : j < o.length) : (natCells o)[j]? = some (.int .i64 (nb o j)) := by
  simp [natCells, ints, nb, List.getD, List.getElem?_eq_getElem h]
theorem natCells_set (o : List Nat) (x y : Nat) : (natCells o).setIfInBounds x (.int .i64 (y : Int)) = natCells (o.set x y) := by
  simp only [natCells, ints, List.setIfInBounds_toArray, List.map_set]
theorem natCells_zero (n : Nat) : natCells (List.replicate n 0) = zeros n := by simp [natCells, ints, zeros]
theorem natCells_size (o : List Nat) : (natCells o).size = o.length := by simp [natCells, ints]
theorem Blk.nat {w : World} {g j : Nat} {t : TypeId} {o : List Nat} (h : Blk w g t (natCells o)) (hj : j < o.length) : w.cell? ⟨g, j, none⟩ = some (.int .i64 (nb o j)) := by rw [h.cell, natCells_get hj]
theorem Blk.gives {w w' : World} {g : Nat} {o : List Nat} (h : Blk w' g 3 (natCells o)) (hg : w.heap.size ≤ g) (hn : o.length ≤ 1048576) (hb : Below w.heap.size w w') : GivesI (ints o) w (.returned (.slice (some ⟨g, 0, none⟩) o.length o.length)) w' := by
  refine givesI_of ?_ hb
  have := h.own (base := w.heap.size) (n := o.length) hg (natCells_size o) (by unfold maxLen; omega)
  unfold OwnI
  exact this
theorem grown_setCell (w : World) (p : Addr) (u : Value) : w.grownBy (w.setCell p u) (some p.block) :=
  ⟨rfl, rfl, rfl, by simp, fun i _ hne => Below.heap_setCell w p u i (fun e => hne (by rw [e]))⟩
theorem grown_drew {w w' : World} {row : Option Nat} (h : w.grownBy w' row) : w.grownBy w'.drew row := ⟨h.os, h.tape, h.output, h.size, h.block⟩
/-- What is the call's own, in blocks from base on, is as it was behind a store below. -/
theorem OwnI.far_store {w : World} {base n c g i : Nat} {A : Option Addr} {xs : List Int} (h : OwnI w base A n c xs) (hg : g < base) (u : Value) : OwnI ((w.setCell ⟨g, i, none⟩ u).drew) base A n c xs := by
  refine OwnI.drew ?_
  rcases hv : (Value.slice A n c).ownBlock with _ | k
  · exact h.kept (grown_setCell w ⟨g, i, none⟩ u) (.inl hv)
  · refine h.kept (grown_setCell w ⟨g, i, none⟩ u) (.inr ?_)
    have := (h.block k hv).1
    rw [hv]
    intro e
    injection e with e
    subst e
    exact absurd hg (Nat.not_lt.2 this)
theorem max_if (a b : Nat) : (if (a : Int) < (b : Int) + 1 then (b : Int) + 1 else (a : Int)) = ((max a (b + 1) : Nat) : Int) := by
  by_cases h : (a : Int) < (b : Int) + 1
  · rw [if_pos h]; omega
  · rw [if_neg h]; omega
theorem implIsTransitive_is {N : Int} {A B : Option Addr} {n m c d : Nat} {X T : List Int} {w : World} {b : Bool} (hX : RI w A n X) (hT : RI w B m T) (hn : n ≤ 9223372036854775807) (hm : m ≤ 9223372036854775807) (hf : Fits T) (h : isTrans N X T = b) :
    Calls Try.prog 46 #[.agg #[.int .i64 N, .slice A n c], .agg #[.slice B m d]] w fun e w' => e = .returned (.bool b) ∧ Below w.heap.size w w' := by
  subst h; exact implIsTransitive_any _ _ _ _ _ _ _ _ _ _ hX hT hn hm hf
set_option maxRecDepth 100000 in
set_option maxHeartbeats 2000000 in
theorem implHeightsOf_any (N : Int) (A B : Option Addr) (n m c d : Nat) (X T : List Int) (w : World) (hX : RI w A n X) (hT : RI w B m T) (hn : n ≤ 9223372036854775807) (hm : m ≤ 9223372036854775807) (hf : Fits T) :
    Calls Try.prog 54 #[.agg #[.int .i64 N, .slice A n c], .agg #[.slice B m d]] w (GivesI (isHeights N X T) w) := by
  have hTT := Lib.hid hT.1
  rcases isTrans_cases N X T with hg | ⟨hg, k, Q, R, rfl, rfl, rfl, h, hRl, hRr⟩
  · have Hg := Lib.hid hg
    rw [isHeights_no hg]
    clear hg
    go_enter Try.func54, Try.ntmps54
    go_wp2_with fail
    refine (implIsTransitive_is (hX.up (by go_grown)) (hT.up (by go_grown)) hn hm hf Hg.out).mono ?_
    rintro e w1 ⟨rfl, hb1⟩
    have hU1 : Up w w1 := Up.then_ (by go_grown) hb1
    go_wp2
    go_ret
    exact givesI_of (l := []) (OwnI.nil_ _ _) hU1
  · have hn7 := h.le
    have Hg := Lib.hid hg
    have HR := Lib.hid (isHeights_ok hg)
    obtain rfl : m = k := by have := hTT.out; rw [ints_len, hRl] at this; omega
    have HRr := Lib.hid hRr
    have HRl := Lib.hid hRl
    have hmk := make_ints m (by omega)
    clear hg hRr hRl
    go_enter Try.func54, Try.ntmps54
    go_wp2_with fail
    refine (implIsTransitive_is (hX.up (by go_grown)) (hT.up (by go_grown)) hn hm hf Hg.out).mono ?_
    rintro e w1 ⟨rfl, hb1⟩
    have hU1 : Up w w1 := Up.then_ (by go_grown) hb1
    replace hX := hX.up hU1
    replace hT := hT.up hU1
    have hblx := ((Blk.new w 27 #[.int .i64 m, .slice A n c]).alloc (.cells #[.slice B m d] 37)).up hb1
    have hblo := (Blk.new_at (w := w.alloc (.cells #[.int .i64 m, .slice A n c] 27)) (t := 37) (cs := #[.slice B m d]) (g := w.heap.size + 1) (by simp)).up hb1
    have hyx := hblx.two
    have hyo := hblo.one
    have hgn := Blk.new w1 3 (natCells (ht4 R m 0))
    have Hz := Lib.hid (show natCells (ht4 R m 0) = zeros m from natCells_zero m)
    have hll := hblx.lt
    have hlo := hblo.lt
    go_wp2_with fail
    clear hmk
    go_loopw [19] (fun i wr => ∃ r : Nat, r ≤ m ∧ i = .int .i64 r ∧ Blk wr w1.heap.size 3 (natCells (ht4 R m r)) ∧ upTo m (49 * r) (ht4 R m r) ∧ Below w1.heap.size w1 wr) (fun i _ => m - (intOf i).toNat)
    case atStart => exact ⟨0, Nat.zero_le _, rfl, by rw [Hz.out] at hgn ⊢; exact hgn, upTo_zero m, by go_grown⟩
    case round =>
      obtain ⟨r, hr, rfl, hg, hu, hb⟩ := hrel
      obtain ⟨wo, rfl⟩ : ∃ wo : World, wo = wr := ⟨_, rfl⟩
      by_cases hlt : r < m
      · have H4 := Lib.hid (show ht4 R m (r + 1) = ht3 R (ht4 R m r) m from rfl)
        obtain ⟨o, ho⟩ : ∃ o, o = ht4 R m r := ⟨_, rfl⟩
        rw [← ho] at hg hu H4
        clear ho
        have h30 : ht3 R o 0 = o := rfl
        rw [← h30] at hg hu
        clear h30
        have hyo2 := (hblo.up hb).one
        go_wp2_with fail
        go_loopw [24] (fun i wr => ∃ k : Nat, k ≤ m ∧ i = .int .i64 k ∧ Blk wr w1.heap.size 3 (natCells (ht3 R o k)) ∧ upTo m (49 * r + 7 * k) (ht3 R o k) ∧ Below w1.heap.size w1 wr) (fun i _ => m - (intOf i).toNat)
        case atStart => exact ⟨0, Nat.zero_le _, rfl, hg, hu.more (by omega), hb⟩
        case round =>
          obtain ⟨k, hk, rfl, hg2, hu2, hb2⟩ := hrel
          obtain ⟨wi, rfl⟩ : ∃ wi : World, wi = wr := ⟨_, rfl⟩
          clear hg hu hb hyo2
          by_cases hkt : k < m
          · obtain ⟨b, rfl, hcb⟩ := (hT.up hb2).nb_at hkt
            have hs := h.n7 (HRr.out k)
            have H3 := Lib.hid (show ht3 R o (k + 1) = ht2 k (ht3 R o k) (listOf (nb R k)) from rfl)
            obtain ⟨o2, ho2⟩ : ∃ o2, o2 = ht3 R o k := ⟨_, rfl⟩
            rw [← ho2] at hg2 hu2 H3
            clear ho2
            have h20 : ht2 k o2 ((listOf (nb R k)).take 0) = o2 := rfl
            have hll := listOf_len (nb R k)
            have hxn := fun j hj => nb_lt_n (HRr.out k) (k := j) hj
            have Hxn := Lib.hid hxn
            clear hxn
            obtain ⟨l, hl⟩ : ∃ l, l = listOf (nb R k) := ⟨_, rfl⟩
            go_wp2_with fail
            refine (implListOf_any (nb R k) _ hs).mono ?_
            intro e w2 hgi
            obtain ⟨L, dd, rfl, hown, hb3⟩ := hgi.out
            clear hgi
            rw [← hl] at h20 hll Hxn H3 hown
            rw [← hl]
            clear hl hcb
            have hri0 := hown.more (base' := w1.heap.size + 1) hg2.lt
            replace hg2 := hg2.up hb3
            have hb4 : Below w1.heap.size w1 w2 := hb2.trans (hb3.mono hb2.size)
            rw [← h20] at hg2 hu2
            clear h20 hown
            go_wp2_with fail
            go_loopw [32] (fun i wr => ∃ j : Nat, j ≤ l.length ∧ i = .int .i64 j ∧ Blk wr w1.heap.size 3 (natCells (ht2 k o2 (l.take j))) ∧ upTo m (49 * r + 7 * k + j) (ht2 k o2 (l.take j)) ∧ Below w1.heap.size w1 wr ∧ OwnI wr (w1.heap.size + 1) L l.length dd (ints l)) (fun i _ => l.length - (intOf i).toNat)
            case atStart => exact ⟨0, Nat.zero_le _, rfl, hg2, hu2, hb4, hri0⟩
            case round =>
              obtain ⟨j, hj, rfl, hg5, hu5, hb5, hri⟩ := hrel
              clear hg2 hu2 hri0
              by_cases hjt : j < l.length
              · obtain ⟨ad, rfl, hcl⟩ := hri.ri.list_at hjt
                have hx := Hxn.out j hjt
                have H2 := Lib.hid (ht2_take (v := k) (o := o2) hjt)
                obtain ⟨x, hxx⟩ : ∃ x, x = nb l j := ⟨_, rfl⟩
                rw [← hxx] at hx H2 hcl
                clear hxx
                obtain ⟨o3, ho3⟩ : ∃ o3, o3 = ht2 k o2 (l.take j) := ⟨_, rfl⟩
                rw [← ho3] at hg5 hu5 H2
                clear ho3
                have hcx := hg5.nat (j := x) (by rw [hu5.1]; exact hx)
                have hcv := hg5.nat (j := k) (by rw [hu5.1]; exact hkt)
                have hfz := hg5.frozen x
                have hu6 := upTo_ht1 (v := k) hu5 hx
                have hbx := hu5.2 x
                have hbv := hu5.2 k
                go_wp2_with fail
                go_still_tail 13, (by kernel_rfl)
                change wpList _ _ _ _ _ wr.drew
                have hcx2 : wr.drew.cell? ⟨w1.heap.size, x, none⟩ = some (.int .i64 (nb o3 x)) := hcx
                have hfz2 : wr.drew.frozen? ⟨w1.heap.size, x, none⟩ = false := hfz
                go_wp2
                go_roundw
                case rel => exact ⟨j + 1, by omega, by go_num, by rw [max_if, H2.out, ht1, ← natCells_set]; exact (hg5.set_ _ _).drew, by rw [H2.out]; exact hu6, (hb5.setCell (Nat.le_refl _) _).drew, hri.far_store (Nat.lt_succ_self _) _⟩
                case measure => simp [intOf]; omega
              · obtain rfl : j = l.length := by omega
                rw [List.take_length] at hg5 hu5
                go_wp2
                go_roundw
                case rel => exact ⟨k + 1, by omega, by go_num, by rw [H3.out]; exact hg5, by rw [H3.out]; exact hu5.more (by omega), hb5⟩
                case measure => simp [intOf]; omega
          · obtain rfl : k = m := by omega
            go_wp2
            go_roundw
            case rel => exact ⟨r + 1, by omega, by go_num, by rw [H4.out]; exact hg2, by rw [H4.out]; exact hu2.more (by omega), hb2⟩
            case measure => simp [intOf]; omega
      · obtain rfl : r = m := by omega
        go_wp2
        go_ret
        have hlen := hu.1
        have hgv := hg.gives (w := w) hU1.size (by omega) (hU1.trans (hb.mono hU1.size))
        have e : isHeights (↑r) (ints Q) (ints R) = ints (ht4 R r r) := by rw [HR.out, HRl.out]; rfl
        rw [hlen] at hgv
        rw [e]
        exact hgv
theorem specIsTransitive_is {N : Int} {A B : Option Addr} {n m c d : Nat} {X T : List Int} {w : World} {b : Bool} (hX : RI w A n X) (hT : RI w B m T) (hn : n ≤ 9223372036854775807) (hm : m ≤ 9223372036854775807) (h : isTrans N X T = b) :
    Calls Try.prog 45 #[.agg #[.int .i64 N, .slice A n c], .agg #[.slice B m d]] w fun e w' => e = .returned (.bool b) ∧ Below w.heap.size w w' := by
  subst h; exact specIsTransitive_any _ _ _ _ _ _ _ _ _ _ hX hT hn hm
set_option maxRecDepth 100000 in
set_option maxHeartbeats 2000000 in
theorem specHeightsOf_any (N : Int) (A B : Option Addr) (n m c d : Nat) (X T : List Int) (w : World) (hX : RI w A n X) (hT : RI w B m T) (hn : n ≤ 9223372036854775807) (hm : m ≤ 9223372036854775807) :
    Calls Try.prog 53 #[.agg #[.int .i64 N, .slice A n c], .agg #[.slice B m d]] w (GivesI (isHeights N X T) w) := by
  have hTT := Lib.hid hT.1
  rcases isTrans_cases N X T with hg | ⟨hg, k, Q, R, rfl, rfl, rfl, h, hRl, hRr⟩
  · have Hg := Lib.hid hg
    rw [isHeights_no hg]
    clear hg
    go_enter Try.func53, Try.ntmps53
    go_wp2_with fail
    refine (specIsTransitive_is (hX.up (by go_grown)) (hT.up (by go_grown)) hn hm Hg.out).mono ?_
    rintro e w1 ⟨rfl, hb1⟩
    have hU1 : Up w w1 := Up.then_ (by go_grown) hb1
    have hown := OwnI.made (base := w.heap.size) w1 hU1.size
    have hww := hU1.alloc hU1.size (.cells #[] 3)
    go_wp2
    go_ret
    exact givesI_of (l := []) hown hww
  · have hn7 := h.le
    have Hg := Lib.hid hg
    have HR := Lib.hid (isHeights_ok hg)
    obtain rfl : m = k := by have := hTT.out; rw [ints_len, hRl] at this; omega
    have HRr := Lib.hid hRr
    have HRl := Lib.hid hRl
    have hmk := make_ints m (by omega)
    clear hg hRr hRl
    go_enter Try.func53, Try.ntmps53
    go_wp2_with fail
    refine (specIsTransitive_is (hX.up (by go_grown)) (hT.up (by go_grown)) hn hm Hg.out).mono ?_
    rintro e w1 ⟨rfl, hb1⟩
    have hU1 : Up w w1 := Up.then_ (by go_grown) hb1
    replace hX := hX.up hU1
    replace hT := hT.up hU1
    have hblx := ((Blk.new w 27 #[.int .i64 m, .slice A n c]).alloc (.cells #[.slice B m d] 37)).up hb1
    have hblo := (Blk.new_at (w := w.alloc (.cells #[.int .i64 m, .slice A n c] 27)) (t := 37) (cs := #[.slice B m d]) (g := w.heap.size + 1) (by simp)).up hb1
    have hyx := hblx.two
    have hgn := Blk.new w1 3 (natCells (ht4 R m 0))
    have Hz := Lib.hid (show natCells (ht4 R m 0) = zeros m from natCells_zero m)
    have hll := hblx.lt
    have hlo := hblo.lt
    go_wp2_with fail
    clear hmk
    go_loopw [6] (fun i wr => ∃ r : Nat, r ≤ m ∧ i = .int .i64 r ∧ Blk wr w1.heap.size 3 (natCells (ht4 R m r)) ∧ upTo m (49 * r) (ht4 R m r) ∧ Below w1.heap.size w1 wr) (fun i _ => m - (intOf i).toNat)
    case atStart => exact ⟨0, Nat.zero_le _, rfl, by rw [Hz.out] at hgn ⊢; exact hgn, upTo_zero m, by go_grown⟩
    case round =>
      obtain ⟨r, hr, rfl, hg, hu, hb⟩ := hrel
      obtain ⟨wo, rfl⟩ : ∃ wo : World, wo = wr := ⟨_, rfl⟩
      clear hyx
      have hyx := (hblx.up hb).two
      by_cases hlt : r < m
      · have H4 := Lib.hid (show ht4 R m (r + 1) = ht3 R (ht4 R m r) m from rfl)
        obtain ⟨o, ho⟩ : ∃ o, o = ht4 R m r := ⟨_, rfl⟩
        rw [← ho] at hg hu H4
        clear ho
        have h30 : ht3 R o 0 = o := rfl
        rw [← h30] at hg hu
        clear h30
        go_wp2_with fail
        go_loopw [7] (fun i wr => ∃ k : Nat, k ≤ m ∧ i = .int .i64 k ∧ Blk wr w1.heap.size 3 (natCells (ht3 R o k)) ∧ upTo m (49 * r + 7 * k) (ht3 R o k) ∧ Below w1.heap.size w1 wr) (fun i _ => m - (intOf i).toNat)
        case atStart => exact ⟨0, Nat.zero_le _, rfl, hg, hu.more (by omega), hb⟩
        case round =>
          obtain ⟨k, hk, rfl, hg2, hu2, hb2⟩ := hrel
          obtain ⟨wi, rfl⟩ : ∃ wi : World, wi = wr := ⟨_, rfl⟩
          clear hg hu hb hyx
          have hyx := (hblx.up hb2).two
          by_cases hkt : k < m
          · have hs := h.n7 (HRr.out k)
            have H3 := Lib.hid (show ht3 R o (k + 1) = ht2 k (ht3 R o k) (listOf (nb R k)) from rfl)
            have HF := Lib.hid (listK_full (HRr.out k) hn7)
            obtain ⟨o2, ho2⟩ : ∃ o2, o2 = ht3 R o k := ⟨_, rfl⟩
            rw [← ho2] at hg2 hu2 H3
            clear ho2
            have h20 : ht2 k o2 (listK (nb R k) 0) = o2 := rfl
            rw [← h20] at hg2 hu2
            clear h20
            go_wp2_with fail
            go_loopw [8] (fun i wr => ∃ j : Nat, j ≤ m ∧ i = .int .i64 j ∧ Blk wr w1.heap.size 3 (natCells (ht2 k o2 (listK (nb R k) j))) ∧ upTo m (49 * r + 7 * k + j) (ht2 k o2 (listK (nb R k) j)) ∧ Below w1.heap.size w1 wr) (fun i _ => m - (intOf i).toNat)
            case atStart => exact ⟨0, Nat.zero_le _, rfl, hg2, hu2, hb2⟩
            case round =>
              obtain ⟨j, hj, rfl, hg5, hu5, hb5⟩ := hrel
              clear hg2 hu2 hyx
              have hyx := (hblx.up hb5).two
              have hyo := (hblo.up hb5).one
              by_cases hjt : j < m
              · obtain ⟨ad, rfl, hcl⟩ := (hT.up hb5).nb_at hkt
                have hbit := bit_one (nb R k) j (by omega)
                rcases Bool.eq_false_or_eq_true ((nb R k).testBit j) with e1 | e1
                · have H2 := Lib.hid (ht2_yes (v := k) (o := o2) e1)
                  rw [e1] at hbit
                  clear e1
                  obtain ⟨o3, ho3⟩ : ∃ o3, o3 = ht2 k o2 (listK (nb R k) j) := ⟨_, rfl⟩
                  rw [← ho3] at hg5 hu5 H2
                  clear ho3
                  have hcx := hg5.nat (j := j) (by rw [hu5.1]; exact hjt)
                  have hcv := hg5.nat (j := k) (by rw [hu5.1]; exact hkt)
                  have hfz := hg5.frozen j
                  have hu6 := upTo_ht1 (v := k) hu5 hjt
                  have hbx := hu5.2 j
                  have hbv := hu5.2 k
                  go_wp2_with fail
                  go_still_tail 13, (by kernel_rfl)
                  change wpList _ _ _ _ _ wr.drew
                  have hcx2 : wr.drew.cell? ⟨w1.heap.size, j, none⟩ = some (.int .i64 (nb o3 j)) := hcx
                  have hfz2 : wr.drew.frozen? ⟨w1.heap.size, j, none⟩ = false := hfz
                  go_wp2
                  go_roundw
                  case rel => exact ⟨j + 1, by omega, by go_num, by rw [max_if, H2.out, ht1, ← natCells_set]; exact (hg5.set_ _ _).drew, by rw [H2.out]; exact hu6, (hb5.setCell (Nat.le_refl _) _).drew⟩
                  case measure => simp [intOf]; omega
                · have H2 := Lib.hid (ht2_no (v := k) (o := o2) e1)
                  rw [e1] at hbit
                  clear e1
                  go_wp2
                  go_roundw
                  case rel => exact ⟨j + 1, by omega, by go_num, by rw [H2.out]; exact hg5, by rw [H2.out]; exact hu5.more (by omega), hb5⟩
                  case measure => simp [intOf]; omega
              · obtain rfl : j = m := by omega
                rw [HF.out] at hg5 hu5
                go_wp2
                go_roundw
                case rel => exact ⟨k + 1, by omega, by go_num, by rw [H3.out]; exact hg5, by rw [H3.out]; exact hu5.more (by omega), hb5⟩
                case measure => simp [intOf]; omega
          · obtain rfl : k = m := by omega
            go_wp2
            go_roundw
            case rel => exact ⟨r + 1, by omega, by go_num, by rw [H4.out]; exact hg2, by rw [H4.out]; exact hu2.more (by omega), hb2⟩
            case measure => simp [intOf]; omega
      · obtain rfl : r = m := by omega
        go_wp2
        go_ret
        have hlen := hu.1
        have hgv := hg.gives (w := w) hU1.size (by omega) (hU1.trans (hb.mono hU1.size))
        have e : isHeights (↑r) (ints Q) (ints R) = ints (ht4 R r r) := by rw [HR.out, HRl.out]; rfl
        rw [hlen] at hgv
        rw [e]
        exact hgv
end Go.Proofs.Ytcaoelihmkbedaa
