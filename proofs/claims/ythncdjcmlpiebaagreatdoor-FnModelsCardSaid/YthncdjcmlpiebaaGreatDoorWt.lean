/- Walks: trees as text. -/
import Derived.Test.YthncdjcmlpiebaaGreatDoorW8
import Derived.Test.YthncdjcmlpiebaaGreatDoorWs
import Derived.Test.YthncdjcmlpiebaaGreatDoorBasA
namespace Go.Proofs.YthncdjcmlpiebaaGreatDoor
open Go.RowKit
set_option maxRecDepth 100000 in
theorem add_0s (a : Addr) : a.add 0 = a := by unfold Addr.add; simp
set_option maxRecDepth 100000 in
theorem tree_nums {X Y : List Int} (h : isTree X Y = true) : (∀ j, (Y.getD j 0).toNat < 100) ∧ (∀ j, j < X.length → ∃ b : Nat, X.getD j 0 = (b : Int) ∧ b < 128) ∧ (∀ j, 0 < j → j < X.length → ∃ p : Nat, Y.getD j 0 = (p : Int) ∧ p < 100) := by
  obtain ⟨h1, h2, h3, h4⟩ := isTree_spec h
  have hb : ∀ j, 0 < j → j < X.length → ∃ p : Nat, Y.getD j 0 = (p : Int) ∧ p < 100 := fun j h0 hj => by
    have := (tOk_pos h0).1 (h4 j hj)
    exact ⟨(Y.getD j 0).toNat, by omega, by omega⟩
  refine ⟨fun j => ?_, fun j hj => ?_, hb⟩
  · rcases Nat.lt_or_ge j X.length with hj | hj
    · rcases Nat.eq_zero_or_pos j with rfl | h0
      · have := (tOk_zero.1 (h4 0 hj)).2
        omega
      · obtain ⟨p, e, hp⟩ := hb j h0 hj
        omega
    · rw [List.getD_eq_getElem?_getD, List.getElem?_eq_none (by omega)]; simp
  · have : 0 ≤ X.getD j 0 ∧ X.getD j 0 ≤ 127 := by
      rcases Nat.eq_zero_or_pos j with rfl | h0
      · exact (tOk_zero.1 (h4 0 hj)).1
      · exact ((tOk_pos h0).1 (h4 j hj)).1
    exact ⟨(X.getD j 0).toNat, by omega, by omega⟩
set_option maxRecDepth 100000 in
theorem ftK_one (X Y : List Int) (b : Nat) (hb : X.getD 0 0 = (b : Int)) : ftK X Y 1 = fset b := by
  show (if 0 = 0 then ([] : List UInt8) else _) ++ fset (X.getD 0 0).toNat = _
  rw [hb]; rfl
set_option maxRecDepth 100000 in
theorem ftK_more {X Y : List Int} {k b p : Nat} (hk : k ≠ 0) (hb : X.getD k 0 = (b : Int)) (hp : Y.getD k 0 = (p : Int)) : ftK X Y (k + 1) = ftK X Y k ++ [32] ++ dec p ++ [62] ++ fset b := by
  rw [ftK, if_neg hk, hb, hp]; rfl
set_option maxRecDepth 100000 in
set_option maxHeartbeats 1000000 in
theorem specFormatTree_any (A B : Option Addr) (n m c d : Nat) (X Y : List Int) (w : World) (hX : RI w A n X) (hY : RI w B m Y) (hn : n ≤ 1048576) (hm : m ≤ 1048576) :
    Calls Tryz.prog 55 #[.agg #[.slice A n c, .slice B m d]] w fun e w' => e = .returned (.string (sb (ftree X Y))) ∧ Below w.heap.size w w' := by
  have hbk := Blk.new w 49 #[.slice A n c, .slice B m d]
  have hU0 : Up w (w.alloc (.cells #[.slice A n c, .slice B m d] 49)) := by go_grown
  have hX0 := hX.up hU0
  have hY0 := hY.up hU0
  have HXl := Lib.hid hX.1
  have HYl := Lib.hid hY.1
  by_cases ht : isTree X Y = true
  · obtain ⟨h1, h2, h3, _⟩ := isTree_spec ht
    obtain ⟨hsm, hbags, hpars⟩ := tree_nums ht
    have HB := Lib.hid hbags
    have HP := Lib.hid hpars
    have HLen := Lib.hid (fun k => ftK_len (B := X) (P := Y) hsm k)
    have HR := Lib.hid (ftree_yes ht)
    have hn20 : n ≤ 20 := by have := hX.1; omega
    have hmn : m = n := by have := hX.1; have := hY.1; omega
    subst hmn
    have HT := Lib.hid ht
    clear ht hbags hpars hsm h1 h2 h3 hX hY
    go_enter Tryz.func55, Tryz.ntmps55
    have hy0 := hbk.two
    go_wp2
    clear hy0
    go_loopw [3, 4] (fun s i wr => ∃ k, k ≤ m ∧ i = .int .i64 (k : Nat) ∧ s = .string (sb (ftK X Y k)) ∧ Blk wr w.heap.size 49 #[.slice A m c, .slice B m d] ∧ RI wr A m X ∧ RI wr B m Y ∧ Below w.heap.size w wr) (fun _ i _ => m - (intOf i).toNat)
    case atStart => exact ⟨0, Nat.zero_le _, rfl, rfl, hbk, hX0, hY0, hU0⟩
    case round =>
      clear hbk hX0 hY0 hU0
      obtain ⟨k, hk, rfl, rfl, hbk, hX0, hY0, hb⟩ := hrel
      have hy := hbk.two
      by_cases hkm : k < m
      · obtain ⟨b, hb1, hb2⟩ := HB.out k (by rw [HXl.out]; exact hkm)
        have hit := specIsTree_any A B m m c d X Y wr hX0 hY0 (by omega) (by omega)
        rw [HT.out] at hit
        have Hit := Lib.hid hit
        clear hit
        go_wp2_with (fail)
        refine Hit.out.mono ?_
        rintro e w1 ⟨rfl, hbe⟩
        replace hbk := hbk.up hbe
        replace hX0 := hX0.up hbe
        replace hY0 := hY0.up hbe
        replace hb := Up.then_ hb hbe
        clear Hit hbe hy
        have hy := hbk.two
        obtain ⟨ad, rfl, _, hcX⟩ := hX0.at_ hkm
        rw [hb1] at hcX
        by_cases hk0 : k = 0
        · subst hk0
          replace hcX : w1.cell? ad = some (.int .i64 (b : Nat)) := by rw [add_0s] at hcX; exact hcX
          have HN := Lib.hid (show fset b = ftK X Y (0 + 1) from (ftK_one X Y b hb1).symm)
          have hadd : ∀ w, (Op.stringOp .add (sb (ftK X Y 0)) (sb (fset b))).run Tryz.prog w = .ok (.string (sb (fset b))) w := addS [] (fset b) (by have := fset_len b; simp; omega)
          have hfs := specFormatSet_any b hb2 w1
          obtain ⟨x, hx⟩ : ∃ x, x = sb (ftK X Y 0) := ⟨_, rfl⟩
          obtain ⟨z, hz⟩ : ∃ z, z = sb (fset b) := ⟨_, rfl⟩
          rw [← hx, ← hz] at hadd
          rw [← hz] at hfs
          rw [← hx]
          have HZ := Lib.hid hz
          have Hfs := Lib.hid hfs
          clear hx hz hfs
          go_wp2_with fail
          refine Hfs.out.mono ?_
          rintro e w2 ⟨rfl, hbf⟩
          replace hbk := hbk.up hbf
          replace hX0 := hX0.up hbf
          replace hY0 := hY0.up hbf
          replace hb := Up.then_ hb hbf
          clear Hfs hbf hy
          go_wp2
          go_roundw
          case rel => exact ⟨1, by omega, rfl, by rw [HZ.out, HN.out], hbk, hX0, hY0, hb⟩
          case measure => simp [intOf]; omega
        · obtain ⟨p, hp1, hp2⟩ := HP.out k (by omega) (by rw [HXl.out]; exact hkm)
          obtain ⟨ae, rfl, _, hcY⟩ := hY0.at_ hkm
          rw [hp1] at hcY
          have hl := HLen.out k
          have hlp := dec_len hp2
          have hlb := fset_len b
          have HN := Lib.hid (ftK_more (X := X) (Y := Y) hk0 hb1 hp1)
          obtain ⟨t, ht⟩ : ∃ t, t = ftK X Y k := ⟨_, rfl⟩
          rw [← ht] at HN hl
          rw [← ht]
          have a1 : ∀ w, (Op.stringOp .add (sb t) ⟨#[32]⟩).run Tryz.prog w = .ok (.string (sb (t ++ [32]))) w := addS t [32] (by simp; omega)
          have a2 : ∀ w, (Op.stringOp .add (sb (t ++ [32])) (sb (dec p))).run Tryz.prog w = .ok (.string (sb (t ++ [32] ++ dec p))) w := addS _ _ (by simp; omega)
          have a3 : ∀ w, (Op.stringOp .add (sb (t ++ [32] ++ dec p)) ⟨#[62]⟩).run Tryz.prog w = .ok (.string (sb (t ++ [32] ++ dec p ++ [62]))) w := addS _ [62] (by simp; omega)
          have a4 : ∀ w, (Op.stringOp .add (sb (t ++ [32] ++ dec p ++ [62])) (sb (fset b))).run Tryz.prog w = .ok (.string (sb (t ++ [32] ++ dec p ++ [62] ++ fset b))) w := addS _ _ (by simp; omega)
          have hfi := fun w => specFormatInt_any p hp2 w
          have hfs := fun w => specFormatSet_any b hb2 w
          obtain ⟨x0, hx0⟩ : ∃ x, x = sb t := ⟨_, rfl⟩
          obtain ⟨x1, hx1⟩ : ∃ x, x = sb (t ++ [32]) := ⟨_, rfl⟩
          obtain ⟨x2, hx2⟩ : ∃ x, x = sb (t ++ [32] ++ dec p) := ⟨_, rfl⟩
          obtain ⟨x3, hx3⟩ : ∃ x, x = sb (t ++ [32] ++ dec p ++ [62]) := ⟨_, rfl⟩
          obtain ⟨x4, hx4⟩ : ∃ x, x = sb (t ++ [32] ++ dec p ++ [62] ++ fset b) := ⟨_, rfl⟩
          obtain ⟨y, hyy⟩ : ∃ y, y = sb (dec p) := ⟨_, rfl⟩
          obtain ⟨z, hz⟩ : ∃ z, z = sb (fset b) := ⟨_, rfl⟩
          rw [← hx0, ← hx1] at a1
          rw [← hx1, ← hx2, ← hyy] at a2
          rw [← hx2, ← hx3] at a3
          rw [← hx3, ← hx4, ← hz] at a4
          simp only [← hyy] at hfi
          simp only [← hz] at hfs
          rw [← hx0]
          have H4 := Lib.hid hx4
          have Hfi := Lib.hid hfi
          have Hfs := Lib.hid hfs
          clear hx0 hx1 hx2 hx3 hx4 hyy hz hfi hfs hl hlp hlb ht
          go_wp2_with fail
          refine (Hfi.out _).mono ?_
          rintro e w2 ⟨rfl, hbf⟩
          replace hbk := hbk.up hbf
          replace hX0 := hX0.up hbf
          replace hY0 := hY0.up hbf
          replace hb := Up.then_ hb hbf
          clear Hfi hbf hy hcX hcY
          have hy := hbk.two
          obtain ⟨_, e, _, hcX⟩ := hX0.at_ hkm
          injection e with e
          subst e
          rw [hb1] at hcX
          go_wp2_with fail
          refine (Hfs.out _).mono ?_
          rintro e w3 ⟨rfl, hbf⟩
          replace hbk := hbk.up hbf
          replace hX0 := hX0.up hbf
          replace hY0 := hY0.up hbf
          replace hb := Up.then_ hb hbf
          clear Hfs hbf hy hcX
          go_wp2
          go_roundw
          case rel => exact ⟨k + 1, by omega, by go_num, by rw [H4.out, HN.out], hbk, hX0, hY0, hb⟩
          case measure => simp [intOf]; omega
      · obtain rfl : k = m := by omega
        have HR2 := Lib.hid (show ftree X Y = ftK X Y k by rw [HR.out, HXl.out])
        go_wp2
        go_ret
        exact ⟨congrArg (fun b => Ending.returned (Value.string (sb b))) HR2.out.symm, hb⟩
  · have ht' : isTree X Y = false := by simpa using ht
    have HE := Lib.hid (ftree_no ht')
    go_enter Tryz.func55, Tryz.ntmps55
    have hy0 := hbk.two
    have hit := specIsTree_any A B n m c d X Y _ hX0 hY0 (by omega) (by omega)
    rw [ht'] at hit
    have Hit := Lib.hid hit
    clear hit
    by_cases h0 : 0 < n
    · go_wp2
      go_loop [3, 4] (fun s i => s = .string ⟨#[]⟩ ∧ i = .int .i64 0) (fun _ _ => 0)
      case atStart => exact ⟨rfl, rfl⟩
      case round =>
        obtain ⟨rfl, rfl⟩ := hrel
        go_wp2_with fail
        refine Hit.out.mono ?_
        rintro e w1 ⟨rfl, hbe⟩
        go_wp2
        go_ret
        exact ⟨congrArg (fun b => Ending.returned (Value.string (sb b))) HE.out.symm, Up.then_ hU0 hbe⟩
    · obtain rfl : n = 0 := by omega
      go_wp2
      go_loop [3, 4] (fun s i => s = .string ⟨#[]⟩ ∧ i = .int .i64 0) (fun _ _ => 0)
      case atStart => exact ⟨rfl, rfl⟩
      case round =>
        obtain ⟨rfl, rfl⟩ := hrel
        go_wp2
        go_ret
        exact ⟨congrArg (fun b => Ending.returned (Value.string (sb b))) HE.out.symm, hU0⟩
set_option maxRecDepth 100000 in
theorem implFormatInt_below (i : Nat) (hi : i < 100) (w : World) : Calls Tryz.prog 67 #[.int .i64 i] w fun e w' => e = .returned (.string (sb (dec i))) ∧ Below w.heap.size w w' :=
  (implFormatInt_any i hi w).mono fun _ _ h => ⟨h.1, by rw [h.2]; exact Below.refl _ _⟩
set_option maxRecDepth 100000 in
set_option maxHeartbeats 1000000 in
theorem implFormatTree_any (A B : Option Addr) (n m c d : Nat) (X Y : List Int) (w : World) (hX : RI w A n X) (hY : RI w B m Y) (hn : n ≤ 1048576) (hm : m ≤ 1048576) :
    Calls Tryz.prog 54 #[.agg #[.slice A n c, .slice B m d]] w fun e w' => e = .returned (.string (sb (ftree X Y))) ∧ Below w.heap.size w w' := by
  have hbk := Blk.new w 49 #[.slice A n c, .slice B m d]
  have hU0 : Up w (w.alloc (.cells #[.slice A n c, .slice B m d] 49)) := by go_grown
  have hX0 := hX.up hU0
  have hY0 := hY.up hU0
  have HXl := Lib.hid hX.1
  have hit := implIsTree_any A B n m c d X Y _ hX0 hY0 (by omega) (by omega)
  by_cases ht : isTree X Y = true
  · obtain ⟨h1, h2, h3, _⟩ := isTree_spec ht
    obtain ⟨hsm, hbags, hpars⟩ := tree_nums ht
    have HB := Lib.hid hbags
    have HP := Lib.hid hpars
    have HLen := Lib.hid (fun k => ftK_len (B := X) (P := Y) hsm k)
    have HR := Lib.hid (ftree_yes ht)
    have hn20 : n ≤ 20 := by have := hX.1; omega
    have hn0 : 0 < n := by have := hX.1; omega
    have hmn : m = n := by have := hX.1; have := hY.1; omega
    subst hmn
    rw [ht] at hit
    have Hit := Lib.hid hit
    clear ht hbags hpars hsm h1 h2 h3 hX hY hit
    go_enter Tryz.func54, Tryz.ntmps54
    have hy0 := hbk.two
    go_wp2_with fail
    refine Hit.out.mono ?_
    rintro e w1 ⟨rfl, hb1⟩
    replace hbk := hbk.up hb1
    replace hX0 := hX0.up hb1
    replace hY0 := hY0.up hb1
    have hb := Up.then_ hU0 hb1
    clear Hit hb1 hy0 hU0
    have hy := hbk.two
    obtain ⟨ad, rfl, _, hcX⟩ := hX0.at_ hn0
    obtain ⟨b, hb1, hb2⟩ := HB.out 0 (by rw [HXl.out]; exact hn0)
    rw [hb1] at hcX
    replace hcX : w1.cell? ad = some (.int .i64 (b : Nat)) := by rw [add_0s] at hcX; exact hcX
    have HN := Lib.hid (ftK_one X Y b hb1)
    go_wp2_with fail
    refine (implFormatSet_any b hb2 w1).mono ?_
    rintro e w2 ⟨rfl, hbf⟩
    replace hbk := hbk.up hbf
    replace hX0 := hX0.up hbf
    replace hY0 := hY0.up hbf
    replace hb := Up.then_ hb hbf
    rw [← HN.out]
    clear hbf hy hcX hb1 hb2 HN
    go_wp2
    go_loopw [3, 4] (fun s i wr => ∃ k, 1 ≤ k ∧ k ≤ m ∧ i = .int .i64 (k : Nat) ∧ s = .string (sb (ftK X Y k)) ∧ Blk wr w.heap.size 49 #[.slice (some ad) m c, .slice B m d] ∧ RI wr (some ad) m X ∧ RI wr B m Y ∧ Below w.heap.size w wr) (fun _ i _ => m - (intOf i).toNat)
    case atStart => exact ⟨1, Nat.le_refl _, hn0, rfl, rfl, hbk, hX0, hY0, hb⟩
    case round =>
      clear hbk hX0 hY0 hb
      obtain ⟨k, hk1, hk, rfl, rfl, hbk, hX0, hY0, hb⟩ := hrel
      obtain ⟨wo, rfl⟩ : ∃ wo : World, wo = wr := ⟨_, rfl⟩
      have hy := hbk.two
      by_cases hkm : k < m
      · obtain ⟨b, hb1, hb2⟩ := HB.out k (by rw [HXl.out]; exact hkm)
        obtain ⟨p, hp1, hp2⟩ := HP.out k (by omega) (by rw [HXl.out]; exact hkm)
        obtain ⟨_, e, hadL, hcX⟩ := hX0.at_ hkm
        injection e with e
        subst e
        obtain ⟨ae, rfl, haeL, hcY⟩ := hY0.at_ hkm
        rw [hb1] at hcX
        rw [hp1] at hcY
        have hl := HLen.out k
        have hlp := dec_len hp2
        have hlb := fset_len b
        have HN := Lib.hid (ftK_more (X := X) (Y := Y) (show k ≠ 0 by omega) hb1 hp1)
        obtain ⟨t, ht⟩ : ∃ t, t = ftK X Y k := ⟨_, rfl⟩
        rw [← ht] at HN hl
        rw [← ht]
        have a1 : ∀ w, (Op.stringOp .add ⟨#[32]⟩ (sb (dec p))).run Tryz.prog w = .ok (.string (sb ([32] ++ dec p))) w := addS [32] (dec p) (by simp; omega)
        have a2 : ∀ w, (Op.stringOp .add (sb ([32] ++ dec p)) ⟨#[62]⟩).run Tryz.prog w = .ok (.string (sb ([32] ++ dec p ++ [62]))) w := addS _ [62] (by simp; omega)
        have a3 : ∀ w, (Op.stringOp .add (sb ([32] ++ dec p ++ [62])) (sb (fset b))).run Tryz.prog w = .ok (.string (sb ([32] ++ dec p ++ [62] ++ fset b))) w := addS _ _ (by simp; omega)
        have a4 : ∀ w, (Op.stringOp .add (sb t) (sb ([32] ++ dec p ++ [62] ++ fset b))).run Tryz.prog w = .ok (.string (sb (t ++ ([32] ++ dec p ++ [62] ++ fset b)))) w := addS _ _ (by simp; omega)
        have hE : t ++ ([32] ++ dec p ++ [62] ++ fset b) = ftK X Y (k + 1) := by rw [HN.out]; simp only [List.append_assoc]
        rw [hE] at a4
        have hfi := fun w => implFormatInt_below p hp2 w
        have hfs := fun w => implFormatSet_any b hb2 w
        obtain ⟨x0, hx0⟩ : ∃ x, x = sb t := ⟨_, rfl⟩
        obtain ⟨x1, hx1⟩ : ∃ x, x = sb ([32] ++ dec p) := ⟨_, rfl⟩
        obtain ⟨x2, hx2⟩ : ∃ x, x = sb ([32] ++ dec p ++ [62]) := ⟨_, rfl⟩
        obtain ⟨x3, hx3⟩ : ∃ x, x = sb ([32] ++ dec p ++ [62] ++ fset b) := ⟨_, rfl⟩
        obtain ⟨x4, hx4⟩ : ∃ x, x = sb (ftK X Y (k + 1)) := ⟨_, rfl⟩
        obtain ⟨y, hyy⟩ : ∃ y, y = sb (dec p) := ⟨_, rfl⟩
        obtain ⟨z, hz⟩ : ∃ z, z = sb (fset b) := ⟨_, rfl⟩
        rw [← hx1, ← hyy] at a1
        rw [← hx1, ← hx2] at a2
        rw [← hx2, ← hx3, ← hz] at a3
        rw [← hx0, ← hx3, ← hx4] at a4
        simp only [← hyy] at hfi
        simp only [← hz] at hfs
        rw [← hx0]
        have H4 := Lib.hid hx4
        have Hfi := Lib.hid hfi
        have Hfs := Lib.hid hfs
        clear hx0 hx1 hx2 hx3 hx4 hyy hz hfi hfs hl hlp hlb ht hE HN hb1 hp1
        have hbkL := hbk.lt
        go_wp2
        have hV0 : Up wo wo.drew := (Up.refl _).drew
        go_region_held3 (fun w' => Up wo w' ∧ (∀ b o, b < wo.heap.size → w'.cell? ⟨b, o, none⟩ = wo.cell? ⟨b, o, none⟩) ∧ w'.cell? (ad.add k) = some (.int .i64 (b : Nat)) ∧ w'.cell? (ae.add k) = some (.int .i64 (p : Nat))) (first | exact (by exact ⟨hV2, fun _ _ hb => hV2.cell hb, (hV2.cell (by first | assumption | (rw [block_of_add]; assumption))).trans (by assumption), (hV2.cell (by first | assumption | (rw [block_of_add]; assumption))).trans (by assumption)⟩) | exact (by exact ⟨hV1, fun _ _ hb => hV1.cell hb, (hV1.cell (by first | assumption | (rw [block_of_add]; assumption))).trans (by assumption), (hV1.cell (by first | assumption | (rw [block_of_add]; assumption))).trans (by assumption)⟩) | exact (by exact ⟨hV0, fun _ _ hb => hV0.cell hb, (hV0.cell (by first | assumption | (rw [block_of_add]; assumption))).trans (by assumption), (hV0.cell (by first | assumption | (rw [block_of_add]; assumption))).trans (by assumption)⟩)) (first | (go_at_call 67; refine (Hfi.out _).mono ?_; rintro e w10 ⟨rfl, hb10⟩; have hV1 := Up.then_ hV0 hb10) | (go_at_call 107; refine (Hfs.out _).mono ?_; rintro e w11 ⟨rfl, hb11⟩; have hV2 := Up.then_ hV1 hb11))
        have hU1 := hV2
        go_wp2
        go_roundw
        case rel => exact ⟨k + 1, by omega, by omega, by go_num, by rw [H4.out], hbk.up hU1, hX0.up hU1, hY0.up hU1, Up.then_ hb hU1⟩
        case measure => simp [intOf]; omega
      · obtain rfl : k = m := by omega
        have HR2 := Lib.hid (show ftree X Y = ftK X Y k by rw [HR.out, HXl.out])
        go_wp2
        go_ret
        exact ⟨congrArg (fun b => Ending.returned (Value.string (sb b))) HR2.out.symm, hb⟩
  · have ht' : isTree X Y = false := by simpa using ht
    have HE := Lib.hid (ftree_no ht')
    rw [ht'] at hit
    have Hit := Lib.hid hit
    clear hit ht ht'
    go_enter Tryz.func54, Tryz.ntmps54
    have hy0 := hbk.two
    go_wp2_with fail
    refine Hit.out.mono ?_
    rintro e w1 ⟨rfl, hb1⟩
    go_wp2
    go_ret
    exact ⟨congrArg (fun b => Ending.returned (Value.string (sb b))) HE.out.symm, Up.then_ hU0 hb1⟩
end Go.Proofs.YthncdjcmlpiebaaGreatDoor
