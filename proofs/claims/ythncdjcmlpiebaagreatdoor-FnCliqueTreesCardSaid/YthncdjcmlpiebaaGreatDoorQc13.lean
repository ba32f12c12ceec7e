/- The reference's sorting. Two slices of numbers held one against the other: the reference's way, the library's way. Walks of chapter 10: IsCliqueOrder. Walks of chapter 8: CliqueTreeOf, the program's. Chapter 8, plain: the graph of a tree of bags. No program in sight. -/
import Derived.Test.YthncdjcmlpiebaaGreatDoorQc01
import Derived.Test.YthncdjcmlpiebaaGreatDoorQc02
import Derived.Test.YthncdjcmlpiebaaGreatDoorQc03
import Derived.Test.YthncdjcmlpiebaaGreatDoorQc04
import Derived.Test.YthncdjcmlpiebaaGreatDoorQc06
import Derived.Test.YthncdjcmlpiebaaGreatDoorQc10
import Derived.Test.YthncdjcmlpiebaaGreatDoorQc12
namespace Go.Proofs.YthncdjcmlpiebaaGreatDoor
open Go.RowKit
set_option maxRecDepth 100000 in
theorem RI.dropS {w : World} {g n k : Nat} {xs : List Int} (h : RI w (some ⟨g, 0, none⟩) n xs) (hk : k ≤ n) : RI w (some ⟨g, k, none⟩) (n - k) (xs.drop k) := by
  refine ⟨by rw [List.length_drop, h.1], fun hn => ⟨_, rfl, fun j hj => ?_⟩⟩
  obtain ⟨ad, e, _, hc⟩ := h.at_ (k := k + j) (by omega)
  injection e with e
  subst e
  have e1 : (⟨g, k, none⟩ : Addr).add j = ⟨g, k + j, none⟩ := by unfold Addr.add; split <;> simp_all
  rw [add_0_] at hc
  rw [e1, hc]
  simp [List.getD]
set_option maxRecDepth 100000 in
set_option maxHeartbeats 4000000 in
theorem l8Sorted_any (A : Option Addr) (n c : Nat) (xs : List Int) (w : World) (hA : RI w A n xs) (hn : n ≤ 1048576) :
    Calls Tryz.prog 103 #[.slice A n c] w fun e w' => ∃ A1 c1, e = .returned (.slice A1 n c1) ∧ OwnI w' w.heap.size A1 n c1 (sortI xs) ∧ Below w.heap.size w w' := by
  have hown0 := OwnI.made (base := w.heap.size) w (Nat.le_refl _)
  have HALL := Lib.hid (show insK xs n = sortI xs by rw [← hA.1]; exact insK_all xs)
  have HK := Lib.hid (show ∀ j, insK xs (j + 1) = insI (insK xs j) (xs.getD j 0) from fun _ => rfl)
  go_enter Tryz.func103, Tryz.ntmps103
  go_wp2_with fail
  go_loopw [3, 4] (fun o i wr => ∃ (j g c3 : Nat), j ≤ n ∧ i = .int .i64 j ∧ o = .slice (some ⟨g, 0, none⟩) j c3 ∧ OwnI wr w.heap.size (some ⟨g, 0, none⟩) j c3 (insK xs j) ∧ Below w.heap.size w wr) (fun _ i _ => n - (intOf i).toNat)
  case atStart => exact ⟨0, w.heap.size, 0, Nat.zero_le _, rfl, rfl, hown0, by go_grown⟩
  case round =>
    clear hown0
    obtain ⟨j, g, c3, hj, rfl, rfl, hown, hb⟩ := hrel
    obtain ⟨wo, rfl⟩ : ∃ wo : World, wo = wr := ⟨_, rfl⟩
    by_cases hjt : j < n
    · obtain ⟨a, rfl, habs, hca⟩ := (hA.up hb).at_ hjt
      have HKj := Lib.hid (HK.out j)
      have hol : (insK xs j).length = j := insK_len xs j
      obtain ⟨x, hx⟩ : ∃ x, x = xs.getD j 0 := ⟨_, rfl⟩
      obtain ⟨out, hout⟩ : ∃ out, out = insK xs j := ⟨_, rfl⟩
      rw [← hx] at hca HKj
      rw [← hout] at hown HKj hol
      clear hx hout
      have HOL := Lib.hid hol
      have HP := Lib.hid (show posI out x = posK out x j by rw [posI, hol])
      have HPK := Lib.hid (show ∀ k, posK out x (k + 1) = if x < out.getD k 0 then posK out x k else k + 1 from fun _ => rfl)
      clear hol
      go_wp2_with fail
      go_loopw [5] (fun i wr => ∃ k : Nat, k ≤ j ∧ i = .int .i64 k ∧ Up wo wr ∧ Hid (posK out x k = posI out x)) (fun i _ => (intOf i).toNat)
      case atStart => exact ⟨j, Nat.le_refl _, rfl, Up.refl _, HP.out.symm⟩
      case round =>
        obtain ⟨k, hk, rfl, hb2, hpk⟩ := hrel
        obtain ⟨w2, rfl⟩ : ∃ w2 : World, w2 = wr := ⟨_, rfl⟩
        have hown2 := hown.up hb2
        have hca2 := (hb2.cell (p := a.add j) (by rw [block_of_add]; exact habs)).trans hca
        by_cases hk0 : k = 0
        · have HN := Lib.hid (show posI out x = k by rw [← hpk.out, hk0]; rfl)
          have hk1 : ¬ 0 < k := by omega
          have hal : a.block < w2.heap.size := Nat.lt_of_lt_of_le habs hb2.size
          clear hk0
          go_wp2
          have hV0 : Up w2 w2.drew := (Up.refl _).drew
          refine wp_region_calm (S := (fun w' => Up w2 w' ∧ (∀ b o, b < w2.heap.size → w'.cell? ⟨b, o, none⟩ = w2.cell? ⟨b, o, none⟩))) (by kernel_rfl) (by kernel_rfl) (by exact ⟨hV0, fun _ _ hb => hV0.cell hb⟩) ?_
          repeat (first | (refine CalmSeq.cons undef (Calm.off (by rfl)) ?_; (try simp only [Act.put, List.setIfInBounds_toArray, List.set_cons_zero, List.set_cons_succ])) | (refine CalmSeq.cons ?_ (Calm.val (by rfl) ?_) ?_; rotate_left; (intro wC hSw; (try dsimp only at hSw); go_simp; done); (try simp only [Act.put, List.setIfInBounds_toArray, List.set_cons_zero, List.set_cons_succ])) | (refine CalmSeq.cons ?_ (Calm.val (by rfl) ?_) ?_; rotate_left; (intro wC hSw; (try dsimp only at hSw); go_simp; with_reducible rfl); (try simp only [Act.put, List.setIfInBounds_toArray, List.set_cons_zero, List.set_cons_succ])))
          intro w3 hS3
          have hU3 : Up w2 w3 := hS3.1
          clear hS3 hV0
          go_wp2_with fail
          have hca3 := (hU3.cell (p := a.add j) (by rw [block_of_add]; exact hal)).trans hca2
          have hal3 : a.block < w3.heap.size := Nat.lt_of_lt_of_le hal hU3.size
          have hown3 := hown2.up hU3
          have hri3 := hown3.ri
          have hT := hri3.take hk
          have hS := hri3.dropS hk
          have hgl3 : g < w3.heap.size := (hown3.block g rfl).2
          have hcap := hown3.cap
          have HSum := Lib.hid (show k + 1 + (j - k) = j + 1 by omega)
          have hkb : k ≤ 1048576 := by omega
          have hkb1 : k + 1 ≤ 1048576 := by omega
          have hkb2 : k + 1 + (j - k) ≤ 1048576 := by omega
          have hE := OwnI.made (base := w3.heap.size) w3 (Nat.le_refl _)
          have hcA : ∀ o, (w3.alloc o).cell? (a.add j) = some (.int .i64 x) := fun o => (World.cell?_alloc_lt w3 o _ (by rw [block_of_add]; exact hal3)).trans hca3
          have hE2 := (hE.alloc (.cells #[.int .i64 x] 3)).drew
          have hE3 : OwnI ((w3.alloc (.cells #[.int .i64 x] 3)).alloc (.cells #[] 3)).drew w3.heap.size (some ⟨w3.heap.size + 1, 0, none⟩) 0 0 [] := (OwnI.made_at (by simp) (by omega)).drew
          have hX2 : Blk ((w3.alloc (.cells #[] 3)).alloc (.cells #[.int .i64 x] 3)).drew (w3.heap.size + 1) 3 #[.int .i64 x] := (Blk.new_at (by simp)).drew
          have hX3 : Blk ((w3.alloc (.cells #[.int .i64 x] 3)).alloc (.cells #[] 3)).drew w3.heap.size 3 #[.int .i64 x] := ((Blk.new w3 3 _).alloc _).drew
          have hD1 := (hT.alloc (.cells #[] 3)).drew
          have hD2 := ((hT.alloc (.cells #[] 3)).alloc (.cells #[.int .i64 x] 3)).drew
          have hD3 := ((hT.alloc (.cells #[.int .i64 x] 3)).alloc (.cells #[] 3)).drew
          replace hE := hE.drew
          have hkc : k ≤ c3 := by omega
          obtain ⟨z, hif, hS⟩ : ∃ z, (if c3 = k then some (⟨g, 0, none⟩ : Addr) else some ⟨g, k, none⟩) = some ⟨g, z, none⟩ ∧ RI w3 (some ⟨g, z, none⟩) (j - k) (out.drop k) := by
            by_cases e : c3 = k
            · refine ⟨0, if_pos e, ?_⟩
              have hjk : j = k := by omega
              exact ⟨by rw [List.length_drop, HOL.out], fun hn => absurd hn (by omega)⟩
            · exact ⟨k, if_neg e, hS⟩
          go_region_law (first
              | (refine step_append_new rfl (.tmp 31) (.tmp 34) rfl rfl hE rfl hD1 hkb (by simp) ?_; intro A4 c4 w4 hown4 hb4 hg4; have hX4' := (Blk.new w4 3 #[.int .i64 x]).ri (xs := [x]) rfl; have hO4 := hown4.alloc (.cells #[.int .i64 x] 3); have hU4 : Up w3 w4 := Below.trans (by go_grown) hb4; have hc4 := (hU4.cell (p := a.add j) (by rw [block_of_add]; exact hal3)).trans hca3)
              | (refine step_append_new rfl (.tmp 31) (.tmp 34) rfl rfl hE2 rfl hD2 hkb (by simp; omega) ?_; intro A4 c4 w4 hown4 hb4 hg4; have hX4' := (hX2.grown hg4 (by simp [Value.ownBlock])).ri (xs := [x]) rfl; have hO4 := hown4; have hU4 : Up w3 w4 := Below.trans (by go_grown) hb4; have hc4 := (hU4.cell (p := a.add j) (by rw [block_of_add]; exact hal3)).trans hca3)
              | (refine step_append_new rfl (.tmp 31) (.tmp 34) rfl rfl hE3 rfl hD3 hkb (by simp; omega) ?_; intro A4 c4 w4 hown4 hb4 hg4; have hX4' := (hX3.grown hg4 (by simp [Value.ownBlock])).ri (xs := [x]) rfl; have hO4 := hown4; have hU4 : Up w3 w4 := Below.trans (by go_grown) hb4; have hc4 := (hU4.cell (p := a.add j) (by rw [block_of_add]; exact hal3)).trans hca3)
              | (refine step_append_own rfl (.tmp 35) (.tmp 40) rfl rfl hO4 rfl hX4' hkb1 (by have := hU4.size; first | exact this | (simp; omega)) ?_; intro A5 c5 w5 hown5 hb5 hg5; have hU5 : Up w3 w5 := (by first | exact hU4.trans hb5 | exact (hU4.alloc hU4.size _).trans hb5); have hS5 := hS.up hU5)
              | (refine step_append_own rfl (.tmp 41) (.tmp 44) rfl rfl hown5 rfl hS5 hkb2 hU5.size ?_; intro A6 c6 w6 hown6 hb6 hg6; have hU6 : Up w3 w6 := hU5.trans hb6))
          all_goals
            have hx6 : OwnI w6 w3.heap.size A6 (j + 1) c6 (insK xs (j + 1)) := hown6.cast HSum.out (by rw [HKj.out, insI, HN.out])
            obtain ⟨g6, rfl⟩ := hx6.form (Nat.succ_pos j)
            have hw6 : Below w.heap.size w w6 := Up.then_ hb (Up.then_ hb2 (Up.then_ hU3 hU6))
            have hbs3 : w.heap.size ≤ w3.heap.size := (Up.then_ hb (Up.then_ hb2 hU3)).size
            clear hE hE2 hE3 hX2 hX3 hD1 hD2 hD3 hT hS hS5 hown6 hg6 hb6 hown5 hg5 hb5 hX4' hO4 hown4 hb4 hg4 hc4 hcA hca3 hif hri3
            go_wp2_with fail
            go_roundw
            case rel => exact ⟨j + 1, g6, c6, by omega, by go_num, by rw [HSum.out], hx6.more hbs3, hw6⟩
            case measure => simp [intOf]; omega
        · obtain ⟨p, hp⟩ : ∃ p, p = k - 1 := ⟨_, rfl⟩
          have hpj : p < j := by omega
          obtain ⟨ad, e, _, hcy⟩ := hown2.ri.at_ hpj
          injection e with e
          subst e
          rw [add_0_] at hcy
          have hgl : g < w2.heap.size := (hown2.block g rfl).2
          have hal : a.block < w2.heap.size := Nat.lt_of_lt_of_le habs hb2.size
          have hk1 : 0 < k := by omega
          obtain ⟨y, hy⟩ : ∃ y, y = out.getD p 0 := ⟨_, rfl⟩
          rw [← hy] at hcy
          have hstep := Lib.hid (show posK out x k = if x < y then posK out x p else k by
            have := HPK.out p
            rw [show p + 1 = k by omega, ← hy] at this
            exact this)
          have hwi : IntKind.i64.wrap ((k : Int) - 1) = (p : Int) := by
            have : (k : Int) - 1 = (p : Int) := by omega
            rw [this, IntWalk.i64_left]; exact IntWalk.wrap64_in _ ⟨by omega, by omega⟩
          have HPk := Lib.hid (show k = p + 1 by omega)
          have hwp : wrap64 ((k : Int) - 1) = (p : Int) := by rw [← IntWalk.i64_left]; exact hwi
          clear hy hp hk0
          by_cases hxy : x < y
          · have d1 : decide (x < y) = true := decide_eq_true hxy
            have HN := Lib.hid (show posK out x p = posI out x by rw [← hpk.out, hstep.out, if_pos hxy])
            go_wp2
            have hV0 : Up w2 w2.drew := (Up.refl _).drew
            refine wp_region_calm (S := (fun w' => Up w2 w' ∧ (∀ b o, b < w2.heap.size → w'.cell? ⟨b, o, none⟩ = w2.cell? ⟨b, o, none⟩) ∧ w'.cell? (⟨g, p, none⟩) = some (.int .i64 y) ∧ w'.cell? (a.add j) = some (.int .i64 x))) (by kernel_rfl) (by kernel_rfl) (by exact ⟨hV0, fun _ _ hb => hV0.cell hb, (hV0.cell (by first | assumption | (rw [block_of_add]; assumption))).trans (by assumption), (hV0.cell (by first | assumption | (rw [block_of_add]; assumption))).trans (by assumption)⟩) ?_
            repeat (first | (refine CalmSeq.cons undef (Calm.off (by rfl)) ?_; (try simp only [Act.put, List.setIfInBounds_toArray, List.set_cons_zero, List.set_cons_succ])) | (refine CalmSeq.cons ?_ (Calm.val (by rfl) ?_) ?_; rotate_left; (intro wC hSw; (try dsimp only at hSw); go_simp; done); (try simp only [Act.put, List.setIfInBounds_toArray, List.set_cons_zero, List.set_cons_succ])) | (refine CalmSeq.cons ?_ (Calm.val (by rfl) ?_) ?_; rotate_left; (intro wC hSw; (try dsimp only at hSw); go_simp; with_reducible rfl); (try simp only [Act.put, List.setIfInBounds_toArray, List.set_cons_zero, List.set_cons_succ])))
            intro w3 hS3
            have hU3 : Up w2 w3 := hS3.1
            clear hS3 hV0
            go_wp2
            go_roundw
            case rel => exact ⟨p, Nat.le_of_lt hpj, rfl, Up.then_ hb2 hU3, HN.out⟩
            case measure => have := HPk.out; clear hwi hwp; simp [intOf]; omega
          · have d1 : decide (x < y) = false := decide_eq_false hxy
            have HN := Lib.hid (show posI out x = k by rw [← hpk.out, hstep.out, if_neg hxy])
            go_wp2
            have hV0 : Up w2 w2.drew := (Up.refl _).drew
            refine wp_region_calm (S := (fun w' => Up w2 w' ∧ (∀ b o, b < w2.heap.size → w'.cell? ⟨b, o, none⟩ = w2.cell? ⟨b, o, none⟩) ∧ w'.cell? (⟨g, p, none⟩) = some (.int .i64 y) ∧ w'.cell? (a.add j) = some (.int .i64 x))) (by kernel_rfl) (by kernel_rfl) (by exact ⟨hV0, fun _ _ hb => hV0.cell hb, (hV0.cell (by first | assumption | (rw [block_of_add]; assumption))).trans (by assumption), (hV0.cell (by first | assumption | (rw [block_of_add]; assumption))).trans (by assumption)⟩) ?_
            repeat (first | (refine CalmSeq.cons undef (Calm.off (by rfl)) ?_; (try simp only [Act.put, List.setIfInBounds_toArray, List.set_cons_zero, List.set_cons_succ])) | (refine CalmSeq.cons ?_ (Calm.val (by rfl) ?_) ?_; rotate_left; (intro wC hSw; (try dsimp only at hSw); go_simp; done); (try simp only [Act.put, List.setIfInBounds_toArray, List.set_cons_zero, List.set_cons_succ])) | (refine CalmSeq.cons ?_ (Calm.val (by rfl) ?_) ?_; rotate_left; (intro wC hSw; (try dsimp only at hSw); go_simp; with_reducible rfl); (try simp only [Act.put, List.setIfInBounds_toArray, List.set_cons_zero, List.set_cons_succ])))
            intro w3 hS3
            have hU3 : Up w2 w3 := hS3.1
            clear hS3 hV0
            go_wp2_with fail
            have hca3 := (hU3.cell (p := a.add j) (by rw [block_of_add]; exact hal)).trans hca2
            have hal3 : a.block < w3.heap.size := Nat.lt_of_lt_of_le hal hU3.size
            have hown3 := hown2.up hU3
            have hri3 := hown3.ri
            have hT := hri3.take hk
            have hS := hri3.dropS hk
            have hgl3 : g < w3.heap.size := (hown3.block g rfl).2
            have hcap := hown3.cap
            have HSum := Lib.hid (show k + 1 + (j - k) = j + 1 by omega)
            have hkb : k ≤ 1048576 := by omega
            have hkb1 : k + 1 ≤ 1048576 := by omega
            have hkb2 : k + 1 + (j - k) ≤ 1048576 := by omega
            have hE := OwnI.made (base := w3.heap.size) w3 (Nat.le_refl _)
            have hcA : ∀ o, (w3.alloc o).cell? (a.add j) = some (.int .i64 x) := fun o => (World.cell?_alloc_lt w3 o _ (by rw [block_of_add]; exact hal3)).trans hca3
            have hE2 := (hE.alloc (.cells #[.int .i64 x] 3)).drew
            have hE3 : OwnI ((w3.alloc (.cells #[.int .i64 x] 3)).alloc (.cells #[] 3)).drew w3.heap.size (some ⟨w3.heap.size + 1, 0, none⟩) 0 0 [] := (OwnI.made_at (by simp) (by omega)).drew
            have hX2 : Blk ((w3.alloc (.cells #[] 3)).alloc (.cells #[.int .i64 x] 3)).drew (w3.heap.size + 1) 3 #[.int .i64 x] := (Blk.new_at (by simp)).drew
            have hX3 : Blk ((w3.alloc (.cells #[.int .i64 x] 3)).alloc (.cells #[] 3)).drew w3.heap.size 3 #[.int .i64 x] := ((Blk.new w3 3 _).alloc _).drew
            have hD1 := (hT.alloc (.cells #[] 3)).drew
            have hD2 := ((hT.alloc (.cells #[] 3)).alloc (.cells #[.int .i64 x] 3)).drew
            have hD3 := ((hT.alloc (.cells #[.int .i64 x] 3)).alloc (.cells #[] 3)).drew
            replace hE := hE.drew
            have hkc : k ≤ c3 := by omega
            obtain ⟨z, hif, hS⟩ : ∃ z, (if c3 = k then some (⟨g, 0, none⟩ : Addr) else some ⟨g, k, none⟩) = some ⟨g, z, none⟩ ∧ RI w3 (some ⟨g, z, none⟩) (j - k) (out.drop k) := by
              by_cases e : c3 = k
              · refine ⟨0, if_pos e, ?_⟩
                have hjk : j = k := by omega
                exact ⟨by rw [List.length_drop, HOL.out], fun hn => absurd hn (by omega)⟩
              · exact ⟨k, if_neg e, hS⟩
            go_region_law (first
                | (refine step_append_new rfl (.tmp 31) (.tmp 34) rfl rfl hE rfl hD1 hkb (by simp) ?_; intro A4 c4 w4 hown4 hb4 hg4; have hX4' := (Blk.new w4 3 #[.int .i64 x]).ri (xs := [x]) rfl; have hO4 := hown4.alloc (.cells #[.int .i64 x] 3); have hU4 : Up w3 w4 := Below.trans (by go_grown) hb4; have hc4 := (hU4.cell (p := a.add j) (by rw [block_of_add]; exact hal3)).trans hca3)
                | (refine step_append_new rfl (.tmp 31) (.tmp 34) rfl rfl hE2 rfl hD2 hkb (by simp; omega) ?_; intro A4 c4 w4 hown4 hb4 hg4; have hX4' := (hX2.grown hg4 (by simp [Value.ownBlock])).ri (xs := [x]) rfl; have hO4 := hown4; have hU4 : Up w3 w4 := Below.trans (by go_grown) hb4; have hc4 := (hU4.cell (p := a.add j) (by rw [block_of_add]; exact hal3)).trans hca3)
                | (refine step_append_new rfl (.tmp 31) (.tmp 34) rfl rfl hE3 rfl hD3 hkb (by simp; omega) ?_; intro A4 c4 w4 hown4 hb4 hg4; have hX4' := (hX3.grown hg4 (by simp [Value.ownBlock])).ri (xs := [x]) rfl; have hO4 := hown4; have hU4 : Up w3 w4 := Below.trans (by go_grown) hb4; have hc4 := (hU4.cell (p := a.add j) (by rw [block_of_add]; exact hal3)).trans hca3)
                | (refine step_append_own rfl (.tmp 35) (.tmp 40) rfl rfl hO4 rfl hX4' hkb1 (by have := hU4.size; first | exact this | (simp; omega)) ?_; intro A5 c5 w5 hown5 hb5 hg5; have hU5 : Up w3 w5 := (by first | exact hU4.trans hb5 | exact (hU4.alloc hU4.size _).trans hb5); have hS5 := hS.up hU5)
                | (refine step_append_own rfl (.tmp 41) (.tmp 44) rfl rfl hown5 rfl hS5 hkb2 hU5.size ?_; intro A6 c6 w6 hown6 hb6 hg6; have hU6 : Up w3 w6 := hU5.trans hb6))
            all_goals
              have hx6 : OwnI w6 w3.heap.size A6 (j + 1) c6 (insK xs (j + 1)) := hown6.cast HSum.out (by rw [HKj.out, insI, HN.out])
              obtain ⟨g6, rfl⟩ := hx6.form (Nat.succ_pos j)
              have hw6 : Below w.heap.size w w6 := Up.then_ hb (Up.then_ hb2 (Up.then_ hU3 hU6))
              have hbs3 : w.heap.size ≤ w3.heap.size := (Up.then_ hb (Up.then_ hb2 hU3)).size
              clear hE hE2 hE3 hX2 hX3 hD1 hD2 hD3 hT hS hS5 hown6 hg6 hb6 hown5 hg5 hb5 hX4' hO4 hown4 hb4 hg4 hc4 hcA hca3 hif hri3
              go_wp2_with fail
              go_roundw
              case rel => exact ⟨j + 1, g6, c6, by omega, by go_num, by rw [HSum.out], hx6.more hbs3, hw6⟩
              case measure => simp [intOf]; omega
    · obtain rfl : j = n := by omega
      go_wp2
      go_ret
      exact ⟨_, c3, rfl, by rw [← HALL.out]; exact hown, hb⟩
end Go.Proofs.YthncdjcmlpiebaaGreatDoor
namespace Go.Proofs.YthncdjcmlpiebaaGreatDoor
open Go.RowKit
set_option maxRecDepth 100000 in
set_option maxHeartbeats 400000 in
theorem l8Same_any (A B : Option Addr) (n m ca cb : Nat) (xs ys : List Int) (w : World) (hA : RI w A n xs) (hB : RI w B m ys) (hn : n ≤ 9223372036854775807) :
    Calls Tryz.prog 84 #[.slice A n ca, .slice B m cb] w fun e w' => e = .returned (.bool (decide (xs = ys))) ∧ Below w.heap.size w w' := by
  have HX := Lib.hid hA.1
  have HY := Lib.hid hB.1
  by_cases hnm : n = m
  · subst hnm
    go_enter Tryz.func84, Tryz.ntmps84
    go_wp2
    go_loopw [5] (fun i wr => ∃ k : Nat, k ≤ n ∧ i = .int .i64 k ∧ Below w.heap.size w wr ∧ Hid (∀ j, j < k → xs.getD j 0 = ys.getD j 0)) (fun i _ => n - (intOf i).toNat)
    case atStart => exact ⟨0, Nat.zero_le _, rfl, Below.refl _ _, fun j h => absurd h (by omega)⟩
    case round =>
      obtain ⟨k, hk, rfl, hb, hall⟩ := hrel
      by_cases hlt : k < n
      · obtain ⟨a, rfl, ha, hca⟩ := (hA.up hb).at_ hlt
        obtain ⟨b, rfl, hb', hcb⟩ := (hB.up hb).at_ hlt
        go_wp2_with fail
        go_quiet (fail)
        go_wp2
        · go_ret
          have h : (xs[k]?.getD 0 != ys[k]?.getD 0) = true := by assumption
          exact ⟨ret_bool (list_ne_at (k := k) (by simpa using h)).symm, below_drewN hb _⟩
        · have h : (xs[k]?.getD 0 != ys[k]?.getD 0) = false := by assumption
          go_roundw
          case rel => exact ⟨k + 1, by omega, by go_num, below_drewN hb _, fun j hj => by
            rcases Nat.lt_succ_iff_lt_or_eq.1 hj with h' | rfl
            · exact hall.out j h'
            · simpa using h⟩
          case measure => simp [intOf]; omega
      · obtain rfl : k = n := by omega
        go_wp2
        go_ret
        exact ⟨ret_bool (list_eq_of HX.out HY.out hall.out).symm, hb⟩
  · have e : ((n : Int) != m) = true := by simp; omega
    go_enter Tryz.func84, Tryz.ntmps84
    go_wp2
    go_ret
    exact ⟨ret_bool (list_ne_len HX.out HY.out hnm).symm, Below.refl _ _⟩
set_option maxRecDepth 100000 in
set_option maxHeartbeats 400000 in
theorem slEqual_any (A B : Option Addr) (n m ca cb : Nat) (xs ys : List Int) (w : World) (hA : RI w A n xs) (hB : RI w B m ys) (hn : n ≤ 9223372036854775807) :
    Calls Tryz.prog 88 #[.slice A n ca, .slice B m cb] w fun e w' => e = .returned (.bool (decide (xs = ys))) ∧ Below w.heap.size w w' := by
  have HX := Lib.hid hA.1
  have HY := Lib.hid hB.1
  by_cases hnm : n = m
  · subst hnm
    go_enter Tryz.func88, Tryz.ntmps88
    go_wp2
    go_loopw [13] (fun i wr => ∃ k : Nat, k ≤ n ∧ i = .int .i64 k ∧ Below w.heap.size w wr ∧ Hid (∀ j, j < k → xs.getD j 0 = ys.getD j 0)) (fun i _ => n - (intOf i).toNat)
    case atStart => exact ⟨0, Nat.zero_le _, rfl, Below.refl _ _, fun j h => absurd h (by omega)⟩
    case round =>
      obtain ⟨k, hk, rfl, hb, hall⟩ := hrel
      by_cases hlt : k < n
      · obtain ⟨a, rfl, ha, hca⟩ := (hA.up hb).at_ hlt
        obtain ⟨b, rfl, hb', hcb⟩ := (hB.up hb).at_ hlt
        go_wp2_with fail
        go_quiet (fail)
        go_wp2
        · go_ret
          have h : (xs[k]?.getD 0 != ys[k]?.getD 0) = true := by assumption
          exact ⟨ret_bool (list_ne_at (k := k) (by simpa using h)).symm, below_drewN hb _⟩
        · have h : (xs[k]?.getD 0 != ys[k]?.getD 0) = false := by assumption
          go_roundw
          case rel => exact ⟨k + 1, by omega, by go_num, below_drewN hb _, fun j hj => by
            rcases Nat.lt_succ_iff_lt_or_eq.1 hj with h' | rfl
            · exact hall.out j h'
            · simpa using h⟩
          case measure => simp [intOf]; omega
      · obtain rfl : k = n := by omega
        go_wp2
        go_ret
        exact ⟨ret_bool (list_eq_of HX.out HY.out hall.out).symm, hb⟩
  · have e : ((n : Int) != m) = true := by simp; omega
    go_enter Tryz.func88, Tryz.ntmps88
    go_wp2
    go_ret
    exact ⟨ret_bool (list_ne_len HX.out HY.out hnm).symm, Below.refl _ _⟩
end Go.Proofs.YthncdjcmlpiebaaGreatDoor
namespace Go.Proofs.YthncdjcmlpiebaaGreatDoor
open Go.RowKit
set_option maxRecDepth 100000 in
theorem implCliques_out {N : Int} {A : Option Addr} {n c : Nat} {X : List Int} {w : World} (hX : RI w A n X) (hn : n ≤ 9223372036854775807) :
    Calls Tryz.prog 80 #[.agg #[.int .i64 N, .slice A n c]] w fun e w' => ∃ B d, e = .returned (.slice B (maxCliquesOf N X).length d) ∧ OwnI w' w.heap.size B (maxCliquesOf N X).length d (ints (maxCliquesOf N X)) ∧ Below w.heap.size w w' :=
  (implMaximalCliques_any N A n c X w hX hn).mono fun _ _ h => h.out
set_option maxRecDepth 100000 in
theorem slEqual_is {A B : Option Addr} {n m ca cb : Nat} {xs ys : List Int} {w : World} {b : Bool} (hA : RI w A n xs) (hB : RI w B m ys) (hn : n ≤ 9223372036854775807) (hb : decide (xs = ys) = b) :
    Calls Tryz.prog 88 #[.slice A n ca, .slice B m cb] w fun e w' => e = .returned (.bool b) ∧ Below w.heap.size w w' := by
  subst hb; exact slEqual_any A B n m ca cb xs ys w hA hB hn
set_option maxRecDepth 100000 in
theorem specCliques_out {N : Int} {A : Option Addr} {n c : Nat} {X : List Int} {w : World} (hX : RI w A n X) (hn : n ≤ 9223372036854775807) :
    Calls Tryz.prog 82 #[.agg #[.int .i64 N, .slice A n c]] w fun e w' => ∃ B d, e = .returned (.slice B (maxCliquesOf N X).length d) ∧ OwnI w' w.heap.size B (maxCliquesOf N X).length d (ints (maxCliquesOf N X)) ∧ Below w.heap.size w w' :=
  (specMaximalCliques_any N A n c X w hX hn).mono fun _ _ h => h.out
set_option maxRecDepth 100000 in
theorem l8Same_is {A B : Option Addr} {n m ca cb : Nat} {xs ys : List Int} {w : World} {b : Bool} (hA : RI w A n xs) (hB : RI w B m ys) (hn : n ≤ 9223372036854775807) (hb : decide (xs = ys) = b) :
    Calls Tryz.prog 84 #[.slice A n ca, .slice B m cb] w fun e w' => e = .returned (.bool b) ∧ Below w.heap.size w w' := by
  subst hb; exact l8Same_any A B n m ca cb xs ys w hA hB hn
end Go.Proofs.YthncdjcmlpiebaaGreatDoor
namespace Go.Proofs.YthncdjcmlpiebaaGreatDoor
open Go.RowKit
def ctOf (N : Int) (X : List Int) : List Int × List Int × Bool :=
  if (elimOf N X).isSome then (ints (ctB (maxCliquesOf N X) ((maxCliquesOf N X).length - 1)).1, (ctB (maxCliquesOf N X) ((maxCliquesOf N X).length - 1)).2, true) else ([], [], false)
set_option maxRecDepth 100000 in
theorem ctOf_no {N : Int} {X : List Int} (h : (elimOf N X).isSome = false) : ctOf N X = ([], [], false) := by rw [ctOf, h]; rfl
set_option maxRecDepth 100000 in
theorem ctOf_yes {N : Int} {X : List Int} (h : (elimOf N X).isSome = true) : ctOf N X = (ints (ctB (maxCliquesOf N X) ((maxCliquesOf N X).length - 1)).1, (ctB (maxCliquesOf N X) ((maxCliquesOf N X).length - 1)).2, true) := by rw [ctOf, if_pos h]
set_option maxRecDepth 100000 in
theorem cliques_nodup {N : Int} {X : List Int} (h : (elimOf N X).isSome = true) : (maxCliquesOf N X).Nodup := by
  obtain ⟨n, Q, rfl, rfl, hk, e⟩ := chordal_cases h
  rw [e]; exact maxK_nodup Q n _
set_option maxRecDepth 100000 in
theorem ctOf_len (N : Int) (X : List Int) : (ctOf N X).1.length ≤ 128 ∧ (ctOf N X).2.1.length ≤ 128 := by
  rcases Bool.eq_false_or_eq_true (elimOf N X).isSome with e | e
  · have hok := cliques_ok e
    have hs := ctB_spec (cliques_nodup e) (b := 2 ^ 7) (by decide) hok.1 ((maxCliquesOf N X).length - 1) (by have := hok.2.1; omega)
    rw [ctOf_yes e]
    exact ⟨by show (ints _).length ≤ 128; rw [ints_len, hs.1]; have := hok.2; omega, by show (ctB _ _).2.length ≤ 128; rw [hs.2.1]; have := hok.2; omega⟩
  · rw [ctOf_no e]; exact ⟨by simp, by simp⟩
set_option maxRecDepth 100000 in
theorem implCount_is {s x : Nat} {w : World} (hs : s < 128) (h : card s = x) : Calls Tryz.prog 63 #[.int .i64 s] w fun e w' => e = .returned (.int .i64 (x : Nat)) ∧ Below w.heap.size w w' := by
  subst h; exact implCountSet_any s w hs
set_option maxRecDepth 100000 in
theorem tB_none {w w' : World} (hb : Below w.heap.size w w') : GivesTB [] [] false w (.returned (.tuple #[.agg #[.slice none 0 0, .slice none 0 0], .bool false])) w' :=
  ⟨none, 0, none, 0, rfl, OwnI.nil_ _ _, OwnI.nil_ _ _, (fun j h => by cases h), hb⟩
set_option maxRecDepth 100000 in
set_option maxHeartbeats 8000000 in
theorem implCliqueTreeOf_any (N : Int) (A : Option Addr) (n c : Nat) (X : List Int) (w : World) (hX : RI w A n X) (hn : n ≤ 9223372036854775807) :
    Calls Tryz.prog 33 #[.agg #[.int .i64 N, .slice A n c]] w (GivesTB (ctOf N X).1 (ctOf N X).2.1 (ctOf N X).2.2 w) := by
  have hG := (Blk.new w 29 #[.int .i64 N, .slice A n c]).alloc (.cells #[.slice none 0 0, .slice none 0 0] 49)
  have hM : Blk ((w.alloc (.cells #[.int .i64 N, .slice A n c] 29)).alloc (.cells #[.slice none 0 0, .slice none 0 0] 49)) (w.heap.size + 1) 49 #[.slice none 0 0, .slice none 0 0] := Blk.new_at (by simp)
  have hU0 : Up w ((w.alloc (.cells #[.int .i64 N, .slice A n c] 29)).alloc (.cells #[.slice none 0 0, .slice none 0 0] 49)) := by go_grown
  obtain ⟨b, hb⟩ : ∃ b, b = (elimOf N X).isSome := ⟨_, rfl⟩
  have HC := Lib.hid hb.symm
  clear hb
  cases b
  · rw [ctOf_no HC.out]
    go_enter Tryz.func33, Tryz.ntmps33
    go_wp2_with fail
    refine (implIsChordal_is (hX.up hU0) hn HC.out).mono ?_
    rintro e w1 ⟨rfl, hb1⟩
    have hU1 : Up w w1 := Up.then_ hU0 hb1
    replace hM := hM.up hb1
    have f0 := hM.frozen 0
    have f1 := hM.frozen 1
    have hy := hM.two
    have hl := hM.lt
    have hfin := ((hM.set_ 0 (.slice none 0 0)).set_ 1 (.slice none 0 0)).two
    have hbf := (hU1.setCell (p := ⟨w.heap.size + 1, 0, none⟩) (by simp) (.slice none 0 0)).setCell (p := ⟨w.heap.size + 1, 1, none⟩) (by simp) (.slice none 0 0)
    clear hG
    go_wp2
    generalize (w1.setCell ⟨w.heap.size + 1, 0, none⟩ (.slice none 0 0)).setCell ⟨w.heap.size + 1, 1, none⟩ (.slice none 0 0) = Wf at hfin hbf ⊢
    refine bodyPost_ret (v := .tuple #[.agg #[.slice none 0 0, .slice none 0 0], .bool false]) ?_ rfl ?_
    · simp [results, Tryz.results33, go_sem, hfin]
    exact tB_none hbf
  · have hok := cliques_ok HC.out
    have hnd := cliques_nodup HC.out
    rw [ctOf_yes HC.out]
    obtain ⟨L, hL⟩ : ∃ L, L = maxCliquesOf N X := ⟨_, rfl⟩
    rw [← hL] at hok hnd ⊢
    have HL := Lib.hid hL
    clear hL
    obtain ⟨hL7, hL0, hL128⟩ := hok
    have HS := Lib.hid (ctB_spec hnd (b := 2 ^ 7) (by decide) hL7)
    have HB7 := Lib.hid (nb_lt_all (Nat.two_pow_pos 7) hL7)
    clear hnd hL7
    go_enter Tryz.func33, Tryz.ntmps33
    go_wp2_with fail
    refine (implIsChordal_is (hX.up hU0) hn HC.out).mono ?_
    rintro e w1 ⟨rfl, hb1⟩
    have hU1 : Up w w1 := Up.then_ hU0 hb1
    replace hM := hM.up hb1
    replace hG := hG.up hb1
    have hyG := hG.two
    have hlG := hG.lt
    clear hU0
    go_wp2_with fail
    refine (implCliques_out (hX.up hU1) hn).mono ?_
    rintro e w2 ⟨AC, cC, rfl, hownC, hb2⟩
    rw [← HL.out] at hownC ⊢
    have hU2 : Up w w2 := Up.then_ hU1 hb2
    replace hM := hM.up hb2
    have hlM : w.heap.size + 1 < w2.heap.size := hM.lt
    obtain ⟨gC, rfl⟩ := hownC.form hL0
    have hriC := hownC.ri
    obtain ⟨aC, e, hc0⟩ := hriC.ints_at hL0
    injection e with e
    subst e
    have hc0' : w2.cell? ⟨gC, 0, none⟩ = some (.int .i64 (nb L 0)) := by rw [add_0_] at hc0; exact hc0
    obtain ⟨x0, hx0⟩ : ∃ x0, x0 = nb L 0 := ⟨_, rfl⟩
    rw [← hx0] at hc0' hc0
    obtain ⟨w3, hw3⟩ : ∃ w3, w3 = ((w2.alloc (.cells #[.int .i64 (x0 : Int)] 3)).alloc (.cells #[.int .i64 (-1)] 3)).alloc (.cells #[.slice (some ⟨w2.heap.size, 0, none⟩) 1 1, .slice (some ⟨w2.heap.size + 1, 0, none⟩) 1 1] 49) := ⟨_, rfl⟩
    have hrA : Blk w3 w2.heap.size 3 #[.int .i64 (x0 : Int)] := by rw [hw3]; exact ((Blk.new w2 _ _).alloc _).alloc _
    have hrB : Blk w3 (w2.heap.size + 1) 3 #[.int .i64 (-1)] := by rw [hw3]; exact (Blk.new_at (by simp)).alloc _
    have hbt : Blk w3 (w2.heap.size + 1 + 1) 49 #[.slice (some ⟨w2.heap.size, 0, none⟩) 1 1, .slice (some ⟨w2.heap.size + 1, 0, none⟩) 1 1] := by rw [hw3]; exact Blk.new_at (by simp)
    have hU3 : Up w2 w3 := by rw [hw3]; go_grown
    have hoA : OwnI w3 w2.heap.size (some ⟨w2.heap.size, 0, none⟩) 1 1 (ints (ctB L 0).1) := by
      have := hrA.own (base := w2.heap.size) (n := 1) (Nat.le_refl _) rfl (by decide)
      unfold OwnI; rw [show (ctB L 0).1 = [x0] by rw [hx0]; rfl]; exact this
    have hoB : OwnI w3 w2.heap.size (some ⟨w2.heap.size + 1, 0, none⟩) 1 1 (ctB L 0).2 := hrB.own (base := w2.heap.size) (n := 1) (by omega) rfl (by decide)
    obtain ⟨bt, hbt'⟩ : ∃ bt, bt = w2.heap.size + 1 + 1 := ⟨_, rfl⟩
    have hbtge : w2.heap.size ≤ bt := by omega
    have hne0 : ∀ j, (Value.slice (some ⟨w2.heap.size, 0, none⟩) 1 1).ownBlock = some j → (Value.slice (some ⟨w2.heap.size + 1, 0, none⟩) 1 1).ownBlock ≠ some j := by
      intro j h1 h2
      simp [Value.ownBlock] at h1 h2
      omega
    clear hx0 hrA hrB hyG hlG hG
    go_wp2_with fail
    rw [← hw3, ← hbt']
    rw [← hbt'] at hbt
    clear hw3 hbt' hc0 hc0'
    go_loopg [6] (L.length - 1) (fun g _ wr => ∃ (m j : Nat) (A1 B1 : Option Addr) (c1 d1 : Nat), Hid (j = m + 1) ∧ j + g = L.length ∧ OwnI wr w2.heap.size A1 j c1 (ints (ctB L m).1) ∧ OwnI wr w2.heap.size B1 j d1 (ctB L m).2 ∧ (∀ i, (Value.slice A1 j c1).ownBlock = some i → (Value.slice B1 j d1).ownBlock ≠ some i) ∧ Blk wr bt 49 #[.slice A1 j c1, .slice B1 j d1] ∧ Below w2.heap.size w2 wr)
    case atStart => exact ⟨0, 1, _, _, 1, 1, rfl, by omega, hoA, hoB, hne0, hbt, hU3⟩
    case round =>
      clear hoA hoB hne0 hbt hU3
      obtain ⟨m, j, A1, B1, c1, d1, hjm, hjg, hoA, hoB, hne, hbt, hb⟩ := hrel
      obtain ⟨wo, rfl⟩ : ∃ wo : World, wo = wr := ⟨_, rfl⟩
      have hbc0 := hbt.two.1
      have hbc1 := hbt.two.2
      have hbl := hbt.lt
      have hj1 : 1 ≤ j := by have := hjm.out; omega
      by_cases hjt : j < L.length
      · have hsp := HS.out m (by have := hjm.out; omega)
        obtain ⟨hl1, hl2, hbg7, s, hs⟩ := hsp
        have hs' := hs (by have := hjm.out; omega)
        obtain ⟨bg, hbg⟩ : ∃ bg, bg = (ctB L m).1 := ⟨_, rfl⟩
        obtain ⟨pr, hpr⟩ : ∃ pr, pr = (ctB L m).2 := ⟨_, rfl⟩
        have HSt := Lib.hid (ctB_step hs')
        have HMem := Lib.hid (allB_mem _ (Nat.le_refl _) s hs')
        rw [← hbg] at hs' hl1 hbg7 hoA HSt HMem
        rw [← hpr] at hoB hl2 HSt
        rw [show bg.length = j by have := hjm.out; omega] at hs' HMem
        have Hs := Lib.hid hs'
        have Hl1 := Lib.hid (show bg.length = j by have := hjm.out; omega)
        have HG7 := Lib.hid (nb_lt_all (Nat.two_pow_pos 7) hbg7)
        clear hs hs' hbg hpr hl1 hl2 hbg7
        obtain ⟨gA, rfl⟩ := hoA.form hj1
        obtain ⟨gB, rfl⟩ := hoB.form hj1
        go_wp2_with fail
        go_loopw [6, 7, 8, 35] (fun z1 z2 z3 i wr => ∃ i' : Nat, i' ≤ j ∧ i = .int .i64 (i' : Nat) ∧ z1 = .int .i64 (cliqB 0 (allB L bg i')) ∧ z2 = .int .i64 (parB 0 (allB L bg i')) ∧ z3 = .int .i64 (mostB (allB L bg i')) ∧ Up wo wr) (fun _ _ _ i _ => j - (intOf i).toNat)
        case atStart => exact ⟨0, Nat.zero_le _, rfl, rfl, rfl, rfl, Up.refl _⟩
        case round =>
          obtain ⟨i, hi, rfl, rfl, rfl, rfl, hbi⟩ := hrel
          obtain ⟨wi, rfl⟩ : ∃ wi : World, wi = wr := ⟨_, rfl⟩
          by_cases hit : i < j
          · have hoAi := hoA.up hbi
            have hbti := hbt.up hbi
            have hRo := Lib.hid (show rowB L bg i (allB L bg i) L.length = allB L bg (i + 1) from rfl)
            obtain ⟨ai, e, hcb⟩ := hoAi.ri.ints_at hit
            injection e with e
            subst e
            rw [add_0_] at hcb
            have hy7 := HG7.out i
            obtain ⟨st, hst⟩ : ∃ st, st = allB L bg i := ⟨_, rfl⟩
            rw [← hst] at hRo ⊢
            clear hst
            obtain ⟨y, hy⟩ : ∃ y, y = nb bg i := ⟨_, rfl⟩
            rw [← hy] at hy7 hcb
            have HY := Lib.hid hy
            clear hy
            go_wp2_with fail
            go_loopw [6, 7, 8, 42] (fun z1 z2 z3 k wr => ∃ k' : Nat, k' ≤ L.length ∧ k = .int .i64 (k' : Nat) ∧ z1 = .int .i64 (cliqB 0 (rowB L bg i st k')) ∧ z2 = .int .i64 (parB 0 (rowB L bg i st k')) ∧ z3 = .int .i64 (mostB (rowB L bg i st k')) ∧ Up wi wr) (fun _ _ _ k _ => L.length - (intOf k).toNat)
            case atStart => exact ⟨0, Nat.zero_le _, rfl, rfl, rfl, rfl, Up.refl _⟩
            case round =>
              clear hcb
              obtain ⟨k, hk, rfl, rfl, rfl, rfl, hbk⟩ := hrel
              obtain ⟨wk, rfl⟩ : ∃ wk : World, wk = wr := ⟨_, rfl⟩
              by_cases hkt : k < L.length
              · have hbk2 := Up.then_ hbi hbk
                have hriCk := hriC.up (hb.trans (hbk2.mono hb.size))
                obtain ⟨ak, e, hck⟩ := hriCk.ints_at hkt
                injection e with e
                subst e
                rw [add_0_] at hck
                have hx7 := HB7.out k
                have hoAk := hoAi.up hbk
                have hbtk := hbti.up hbk
                have hbtc := hbtk.two.1
                have hbtl := hbtk.lt
                have HPI := Lib.hid (show decide (nb L k ∈ bg) = true → rowB L bg i st (k + 1) = rowB L bg i st k from fun h => pickB_in h)
                have HPF := Lib.hid (show ¬ mostB (rowB L bg i st k) < (comm L bg i k : Nat) → rowB L bg i st (k + 1) = rowB L bg i st k from fun h => pickB_few h)
                have HPN := Lib.hid (show decide (nb L k ∈ bg) = false → mostB (rowB L bg i st k) < (comm L bg i k : Nat) → rowB L bg i st (k + 1) = some (nb L k, i, comm L bg i k) from fun h h2 => pickB_new h h2)
                have HCo := Lib.hid (show comm L bg i k = card (nb L k &&& nb bg i) from rfl)
                rw [← HY.out] at HCo
                obtain ⟨cn, hcn⟩ : ∃ cn, cn = comm L bg i k := ⟨_, rfl⟩
                rw [← hcn] at HPF HPN HCo
                obtain ⟨mo, hmo⟩ : ∃ mo, mo = mostB (rowB L bg i st k) := ⟨_, rfl⟩
                obtain ⟨x, hx⟩ : ∃ x, x = nb L k := ⟨_, rfl⟩
                rw [← hx] at hx7 hck HPI HPN HCo
                rw [← hmo] at HPF HPN ⊢
                have Hmo := Lib.hid hmo
                clear hcn hx hmo
                have hand := i64_and7 hx7 hy7
                have hz7 : x &&& y < 128 := Nat.lt_of_le_of_lt Nat.and_le_left hx7
                obtain ⟨z, hz⟩ : ∃ z, z = x &&& y := ⟨_, rfl⟩
                rw [← hz] at hand hz7 HCo
                clear hz
                have hj9 : j ≤ 9223372036854775807 := by omega
                obtain ⟨bh, hbh⟩ : ∃ bh, bh = decide (x ∈ bg) := ⟨_, rfl⟩
                have HH := Lib.hid (show decide ((x : Int) ∈ ints bg) = bh by rw [dec_mem]; exact hbh.symm)
                have HH2 := Lib.hid hbh.symm
                clear hbh
                cases bh
                · by_cases hlt : mo < (cn : Int)
                  · have d1 : decide (mo < (cn : Int)) = true := decide_eq_true hlt
                    have HR := Lib.hid (HPN.out HH2.out hlt)
                    go_wp2_with fail
                    refine (implCount_is hz7 HCo.out.symm).mono ?_
                    rintro e w5 ⟨rfl, hb5⟩
                    have hoA5 := hoAk.up hb5
                    have hbt5 := (hbtk.up hb5).two.1
                    have hbtl5 := (hbtk.up hb5).lt
                    have hU5 := Up.then_ hbk hb5
                    clear hbtc hbtl
                    go_wp2_with fail
                    refine (slContains_is hoA5.ri hj9 HH.out).mono ?_
                    rintro e w6 ⟨rfl, rfl⟩
                    go_wp2
                    go_roundw
                    case rel => exact ⟨k + 1, by omega, by go_num, by rw [HR.out]; rfl, by rw [HR.out]; rfl, by rw [HR.out]; rfl, hU5⟩
                    case measure => simp [intOf]; omega
                  · have d1 : decide (mo < (cn : Int)) = false := decide_eq_false hlt
                    have HR := Lib.hid (HPF.out hlt)
                    go_wp2_with fail
                    refine (implCount_is hz7 HCo.out.symm).mono ?_
                    rintro e w5 ⟨rfl, hb5⟩
                    have hoA5 := hoAk.up hb5
                    have hbt5 := (hbtk.up hb5).two.1
                    have hbtl5 := (hbtk.up hb5).lt
                    have hU5 := Up.then_ hbk hb5
                    clear hbtc hbtl
                    go_wp2_with fail
                    refine (slContains_is hoA5.ri hj9 HH.out).mono ?_
                    rintro e w6 ⟨rfl, rfl⟩
                    go_wp2
                    go_roundw
                    case rel => exact ⟨k + 1, by omega, by go_num, by rw [HR.out], by rw [HR.out], by rw [HR.out, Hmo.out], hU5⟩
                    case measure => simp [intOf]; omega
                · have HR := Lib.hid (HPI.out HH2.out)
                  go_wp2_with fail
                  refine (implCount_is hz7 HCo.out.symm).mono ?_
                  rintro e w5 ⟨rfl, hb5⟩
                  have hoA5 := hoAk.up hb5
                  have hbt5 := (hbtk.up hb5).two.1
                  have hbtl5 := (hbtk.up hb5).lt
                  have hU5 := Up.then_ hbk hb5
                  clear hbtc hbtl
                  go_wp2_with fail
                  refine (slContains_is hoA5.ri hj9 HH.out).mono ?_
                  rintro e w6 ⟨rfl, rfl⟩
                  go_wp2
                  go_roundw
                  case rel => exact ⟨k + 1, by omega, by go_num, by rw [HR.out], by rw [HR.out], by rw [HR.out, Hmo.out], hU5⟩
                  case measure => simp [intOf]; omega
              · obtain rfl : k = L.length := by omega
                rw [hRo.out]
                go_wp2
                go_roundw
                case rel => exact ⟨i + 1, by omega, by go_num, rfl, rfl, rfl, Up.then_ hbi hbk⟩
                case measure => simp [intOf]; omega
          · obtain rfl : i = j := by omega
            rw [Hs.out]
            have hbti := hbt.up hbi
            have hA2 := hoA.up hbi
            have hB2 := hoB.up hbi
            have hym := hbti.two
            have hlm2 := hbti.lt
            have T0 := Two.start (W := wi.drew) (base := w2.heap.size) hA2.drew hB2.drew hne
            have hx0 := hbti.drew.two
            have hx1 := fun o => (hbti.alloc o).two
            have hx2 := fun o o' => ((hbti.alloc o).alloc o').two
            have hna : some bt ≠ (Value.slice (some ⟨gA, 0, none⟩) i c1).ownBlock := Ne.symm (own_blk_ne (e := 3) hA2 hbti (by decide))
            have hnb : some bt ≠ (Value.slice (some ⟨gB, 0, none⟩) i d1).ownBlock := Ne.symm (own_blk_ne (e := 3) hB2 hbti (by decide))
            have hga : ∀ g, wi.heap.size ≤ g → some g ≠ (Value.slice (some ⟨gA, 0, none⟩) i c1).ownBlock := fun g hg e => by have := (hA2.block g e.symm).2; omega
            have hgb : ∀ g, wi.heap.size ≤ g → some g ≠ (Value.slice (some ⟨gB, 0, none⟩) i d1).ownBlock := fun g hg e => by have := (hB2.block g e.symm).2; omega
            have hsz2 : w2.heap.size ≤ wi.heap.size := Nat.le_trans hb.size hbi.size
            obtain ⟨p1, hp1⟩ : ∃ p1 : Nat, p1 = s.1 := ⟨_, rfl⟩
            obtain ⟨p2, hp2⟩ : ∃ p2 : Nat, p2 = s.2.1 := ⟨_, rfl⟩
            have eF := Lib.hid (show List.map (Value.int .i64) (ints bg) ++ [.int .i64 (p1 : Int)] = List.map (Value.int .i64) (ints (ctB L (m + 1)).1) by rw [HSt.out, hp1]; simp [ints])
            have eG := Lib.hid (show List.map (Value.int .i64) pr ++ [.int .i64 (p2 : Int)] = List.map (Value.int .i64) (ctB L (m + 1)).2 by rw [HSt.out, hp2]; simp)
            rw [show cliqB 0 (some s) = (p1 : Int) by rw [hp1]; rfl, show parB 0 (some s) = (p2 : Int) by rw [hp2]; rfl]
            have hbwi := Lib.hid (hb.trans (hbi.mono hb.size)).drew
            have hra := Lib.hid (show ∀ k', (Value.slice (some ⟨gA, 0, none⟩) i c1).ownBlock = some k' → w2.heap.size ≤ k' from fun k' e => (hA2.block k' e).1)
            have hrb := Lib.hid (show ∀ k', (Value.slice (some ⟨gB, 0, none⟩) i d1).ownBlock = some k' → w2.heap.size ≤ k' from fun k' e => (hB2.block k' e).1)
            have HJ2 := Lib.hid (show i + 1 = m + 1 + 1 by rw [hjm.out])
            have hi1 : i ≤ 1048576 := by omega
            clear hp1 hp2 hbt hA2 hB2 hoA hoB hne hM hU1 hU2 hb hbi hb1 hb2 hownC hriC HB7 HG7 HS Hs HSt HMem hX HL HC Hl1 hbc0 hbc1 hbl
            go_wp2_with fail
            go_region_law (first
              | (refine stepA_int rfl (.tmp 66) (.tmp 68) rfl (p1 : Int) rfl (by first | exact T8 | exact T8.alloc _) _ rfl (by first | exact cell_lit rfl | exact cell_lit (by simp) | exact cell_lit4 hg8 rfl (hgb _ (by simp)) | exact cell_lit4 hg8 (by simp) (hgb _ (by simp)) | exact cell_lit5 hg8 rfl (hgb _ (by simp)) | exact cell_lit5 hg8 (by simp) (hgb _ (by simp))) hi1 (by simp; omega) ?_; intro A7 c7 w7 T9 hg9; have hx9 := (T9.blk hbti.drew hna hnb).two; have f90 := (T9.blk hbti.drew hna hnb).frozen 0; have f91 := (T9.blk hbti.drew hna hnb).frozen 1)
              | (refine stepB_int rfl (.tmp 71) (.tmp 73) rfl (p2 : Int) rfl (by first | exact T7 | exact T7.alloc _) _ rfl (by first | exact cell_lit rfl | exact cell_lit (by simp) | exact cell_lit4 hg7 rfl (hga _ (by simp)) | exact cell_lit4 hg7 (by simp) (hga _ (by simp)) | exact cell_lit5 hg7 rfl (hga _ (by simp)) | exact cell_lit5 hg7 (by simp) (hga _ (by simp))) hi1 (by simp; omega) ?_; intro B8 d8 w7 T9 hg9; have hx9 := (T9.blk hbti.drew hna hnb).two; have f90 := (T9.blk hbti.drew hna hnb).frozen 0; have f91 := (T9.blk hbti.drew hna hnb).frozen 1)
              | (refine stepA_int rfl (.tmp 66) (.tmp 68) rfl (p1 : Int) rfl (by first | exact T0.alloc _ | exact (T0.alloc _).alloc _) _ rfl (by first | exact cell_lit rfl | exact cell_lit (by simp) | exact cell_lit1 rfl | exact cell_lit1 (by simp)) hi1 (by simp; omega) ?_; intro A7 c7 w7 T7 hg7; have hx7 := (T7.blk hbti.drew hna hnb).two; have hx77 := fun o => ((T7.blk hbti.drew hna hnb).alloc o).two)
              | (refine stepB_int rfl (.tmp 71) (.tmp 73) rfl (p2 : Int) rfl (by first | exact T0.alloc _ | exact (T0.alloc _).alloc _) _ rfl (by first | exact cell_lit rfl | exact cell_lit (by simp) | exact cell_lit1 rfl | exact cell_lit1 (by simp)) hi1 (by simp; omega) ?_; intro B8 d8 w7 T8 hg8; have hx8 := (T8.blk hbti.drew hna hnb).two; have hx88 := fun o => ((T8.blk hbti.drew hna hnb).alloc o).two))
            all_goals
              have hA9 : OwnI w7 w2.heap.size A7 (i + 1) c7 (ints (ctB L (m + 1)).1) := by unfold OwnI; rw [← eF.out]; exact T9.a
              have hB9 : OwnI w7 w2.heap.size B8 (i + 1) d8 (ctB L (m + 1)).2 := by unfold OwnI; rw [← eG.out]; exact T9.b
              have hn9 := T9.ne
              have hbm9 := T9.blk hbti.drew hna hnb
              have hw9 := T9.below hbwi.out hra.out hrb.out hsz2
              clear T9
              go_wp2_with fail
              go_roundg (gk - 1)
              case measure => omega
              case rel => exact ⟨m + 1, i + 1, A7, B8, c7, d8, HJ2.out, by omega, (hA9.other_store (i := 0) hbm9 (by decide) _).other_store (i := 1) (hbm9.set_ 0 _) (by decide) _, (hB9.other_store (i := 0) hbm9 (by decide) _).other_store (i := 1) (hbm9.set_ 0 _) (by decide) _, hn9, (hbm9.set_ 0 _).set_ 1 _, (hw9.setCell (p := ⟨bt, 0, none⟩) hbtge _).setCell (p := ⟨bt, 1, none⟩) hbtge _⟩
      · have hjL : j = L.length := by omega
        have HR := Lib.hid (show L.length - 1 = m by rw [← hjL, hjm.out, Nat.add_sub_cancel])
        have hl := HS.out m (by have := hjm.out; omega)
        have HLe := Lib.hid (show (ints (ctB L m).1).length = j ∧ (ctB L m).2.length = j by rw [ints_len, hl.1, hl.2.1]; exact ⟨hjm.out.symm, hjm.out.symm⟩)
        have hnot : ¬ j < L.length := hjt
        have hM5 := hM.below hb hlM
        have f0 := hM5.frozen 0
        have f1 := hM5.frozen 1
        have hyM := hM5.two
        have hlM5 := hM5.lt
        have hsz : w.heap.size ≤ w2.heap.size := hU2.size
        have hbw : Below w.heap.size w wo := hU2.trans (hb.mono hsz)
        have hneM : (w.heap.size + 1) ≠ bt := by omega
        have hfin := ((hM5.set_ 0 (.slice A1 j c1)).set_ 1 (.slice B1 j d1)).two
        have hA3 := (hoA.other_store (i := 0) hM5 (by decide) (.slice A1 j c1)).other_store (i := 1) (hM5.set_ 0 (.slice A1 j c1)) (by decide) (.slice B1 j d1)
        have hB3 := (hoB.other_store (i := 0) hM5 (by decide) (.slice A1 j c1)).other_store (i := 1) (hM5.set_ 0 (.slice A1 j c1)) (by decide) (.slice B1 j d1)
        have hbf := (hbw.setCell (p := ⟨w.heap.size + 1, 0, none⟩) (by simp) (.slice A1 j c1)).setCell (p := ⟨w.heap.size + 1, 1, none⟩) (by simp) (.slice B1 j d1)
        clear hjL hoA hoB hl hjt
        go_wp2
        generalize (wo.setCell ⟨w.heap.size + 1, 0, none⟩ (.slice A1 j c1)).setCell ⟨w.heap.size + 1, 1, none⟩ (.slice B1 j d1) = Wf at hfin hA3 hB3 hbf ⊢
        refine bodyPost_ret (v := .tuple #[.agg #[.slice A1 j c1, .slice B1 j d1], .bool true]) ?_ rfl ?_
        · simp [results, Tryz.results33, go_sem, hfin]
        rw [HR.out]
        exact ⟨A1, c1, B1, d1, by rw [HLe.out.1, HLe.out.2], (hA3.cast HLe.out.1.symm rfl).more hsz, (hB3.cast HLe.out.2.symm rfl).more hsz, by rw [HLe.out.1, HLe.out.2]; exact hne, hbf⟩
end Go.Proofs.YthncdjcmlpiebaaGreatDoor
namespace Go.Proofs.YthncdjcmlpiebaaGreatDoor
def pE (Q l : List Nat) (i : Nat) : Nat → List Nat
  | 0 => Q
  | j + 1 => addE (pE Q l i j) (nb l i) (nb l j)
def qE (Q l : List Nat) : Nat → List Nat
  | 0 => Q
  | i + 1 => pE (qE Q l i) l i i
def rE (Q : List Nat) (b : Nat) (l : List Nat) : Nat → List Nat
  | 0 => Q
  | k + 1 => (rE Q b l k).set (nb l k) (nb (rE Q b l k) (nb l k) ||| dif b (2 ^ nb l k))
def tE (n : Nat) (B : List Nat) : Nat → List Nat
  | 0 => List.replicate n 0
  | m + 1 => qE (tE n B m) (listOf (nb B m)) (listOf (nb B m)).length
theorem natVerts.notin {n : Nat} {l : List Nat} (h : natVerts n l) {k : Nat} (hk : k < l.length) : nb l k ∉ l.take k := by
  intro hm
  obtain ⟨i, hi, e⟩ := List.mem_iff_getElem.1 hm
  rw [List.length_take] at hi
  have e2 : nb l i = nb l k := by simp [nb, List.getD, List.getElem?_eq_getElem (show i < l.length by omega)] at e ⊢; exact e
  have := h.inj (i := i) (j := k) (by omega) hk e2
  omega
theorem pE_ok {n : Nat} {Q l : List Nat} (h : GOk n Q) (hl : natVerts n l) {i : Nat} (hi : i < l.length) : ∀ j, j ≤ i → GOk n (pE Q l i j)
  | 0, _ => h
  | j + 1, hj => by
    refine (pE_ok h hl hi j (by omega)).addE (hl.at_ hi) (hl.at_ (by omega)) fun e => ?_
    have := hl.inj hi (show j < l.length by omega) e
    omega
theorem pE_bits {n : Nat} {Q l : List Nat} (h : GOk n Q) (hl : natVerts n l) {i : Nat} (hi : i < l.length) : ∀ j, j ≤ i → ∀ a b, (nb (pE Q l i j) a).testBit b = true ↔ (nb Q a).testBit b = true ∨ (a = nb l i ∧ b ∈ l.take j) ∨ (b = nb l i ∧ a ∈ l.take j)
  | 0, _, a, b => by simp [pE]
  | j + 1, hj, a, b => by
    have hk := pE_ok h hl hi j (by omega)
    rw [pE, testBit_addE (by rw [hk.len]; exact hl.at_ hi) (by rw [hk.len]; exact hl.at_ (by omega)) (fun e => by have := hl.inj hi (show j < l.length by omega) e; omega)]
    rw [Bool.or_eq_true, Bool.or_eq_true, pE_bits h hl hi j (by omega) a b, take_snocN (by omega), decide_eq_true_eq, decide_eq_true_eq]
    simp only [List.mem_append, List.mem_singleton]
    constructor
    · rintro (((h1 | h1 | h1) | h1) | h1)
      · exact .inl h1
      · exact .inr (.inl ⟨h1.1, .inl h1.2⟩)
      · exact .inr (.inr ⟨h1.1, .inl h1.2⟩)
      · exact .inr (.inl ⟨h1.1, .inr h1.2⟩)
      · exact .inr (.inr ⟨h1.2, .inr h1.1⟩)
    · rintro (h1 | ⟨h1, h2 | h2⟩ | ⟨h1, h2 | h2⟩)
      · exact .inl (.inl (.inl h1))
      · exact .inl (.inl (.inr (.inl ⟨h1, h2⟩)))
      · exact .inl (.inr ⟨h1, h2⟩)
      · exact .inl (.inl (.inr (.inr ⟨h1, h2⟩)))
      · exact .inr ⟨h2, h1⟩
theorem qE_ok {n : Nat} {Q l : List Nat} (h : GOk n Q) (hl : natVerts n l) : ∀ i, i ≤ l.length → GOk n (qE Q l i)
  | 0, _ => h
  | i + 1, hi => pE_ok (qE_ok h hl i (by omega)) hl (by omega) i (Nat.le_refl _)
theorem qE_bits {n : Nat} {Q l : List Nat} (h : GOk n Q) (hl : natVerts n l) : ∀ i, i ≤ l.length → ∀ a b, (nb (qE Q l i) a).testBit b = true ↔ (nb Q a).testBit b = true ∨ (a ≠ b ∧ a ∈ l.take i ∧ b ∈ l.take i)
  | 0, _, a, b => by simp [qE]
  | i + 1, hi, a, b => by
    rw [qE, pE_bits (qE_ok h hl i (by omega)) hl (by omega) i (Nat.le_refl _) a b, qE_bits h hl i (by omega) a b, take_snocN (by omega)]
    simp only [List.mem_append, List.mem_singleton]
    have hno := hl.notin (k := i) (by omega)
    constructor
    · rintro ((h1 | ⟨h1, h2, h3⟩) | ⟨h1, h2⟩ | ⟨h1, h2⟩)
      · exact .inl h1
      · exact .inr ⟨h1, .inl h2, .inl h3⟩
      · exact .inr ⟨fun e => hno (by rw [← h1, e]; exact h2), .inr h1, .inl h2⟩
      · exact .inr ⟨fun e => hno (by rw [← h1, ← e]; exact h2), .inl h2, .inr h1⟩
    · rintro (h1 | ⟨h1, h2 | h2, h3 | h3⟩)
      · exact .inl (.inl h1)
      · exact .inl (.inr ⟨h1, h2, h3⟩)
      · exact .inr (.inr ⟨h3, h2⟩)
      · exact .inr (.inl ⟨h2, h3⟩)
      · exact absurd (h2.trans h3.symm) h1
theorem rE_len (Q : List Nat) (b : Nat) (l : List Nat) : ∀ k, (rE Q b l k).length = Q.length
  | 0 => rfl
  | k + 1 => by rw [rE, List.length_set, rE_len Q b l k]
theorem rE_bits {n b : Nat} {Q l : List Nat} (hQ : Q.length = n) (hl : natVerts n l) : ∀ k, k ≤ l.length → ∀ a c, (nb (rE Q b l k) a).testBit c = true ↔ (nb Q a).testBit c = true ∨ (a ∈ l.take k ∧ b.testBit c = true ∧ a ≠ c)
  | 0, _, a, c => by simp [rE]
  | k + 1, hk, a, c => by
    rw [rE, nb_set' (by rw [rE_len, hQ]; exact hl.at_ (by omega)), take_snocN (by omega)]
    have ih := rE_bits (b := b) hQ hl k (by omega) a c
    simp only [List.mem_append, List.mem_singleton]
    by_cases e : a = nb l k
    · rw [if_pos e, ← e, Nat.testBit_or, Bool.or_eq_true, ih, testBit_dif, Bool.and_eq_true, Nat.testBit_two_pow]
      constructor
      · rintro ((h1 | ⟨h1, h2, h3⟩) | ⟨h1, h2⟩)
        · exact .inl h1
        · exact .inr ⟨.inl h1, h2, h3⟩
        · exact .inr ⟨.inr rfl, h1, by simpa using h2⟩
      · rintro (h1 | ⟨_, h2, h3⟩)
        · exact .inl (.inl h1)
        · exact .inr ⟨h2, by simpa using h3⟩
    · rw [if_neg e, ih]
      constructor
      · rintro (h1 | ⟨h1, h2, h3⟩)
        · exact .inl h1
        · exact .inr ⟨.inl h1, h2, h3⟩
      · rintro (h1 | ⟨h1 | h1, h2, h3⟩)
        · exact .inl h1
        · exact .inr ⟨h1, h2, h3⟩
        · exact absurd h1 e
theorem rE_lt {n b : Nat} {Q l : List Nat} (h : GOk n Q) (hb : b < 2 ^ n) (hl : natVerts n l) : ∀ k, k ≤ l.length → ∀ a, nb (rE Q b l k) a < 2 ^ n
  | 0, _, a => h.lt a
  | k + 1, hk, a => by
    rw [rE, nb_set' (by rw [rE_len, h.len]; exact hl.at_ (by omega))]
    by_cases e : a = nb l k
    · rw [if_pos e]
      exact Nat.or_lt_two_pow (rE_lt h hb hl k (by omega) _) (dif_lt hb)
    · rw [if_neg e]
      exact rE_lt h hb hl k (by omega) a
theorem listOf_verts {n b : Nat} (hb : b < 2 ^ n) : natVerts n (listOf b) := ⟨fun _ hv => bit_lt hb (mem_listOf.1 hv).2, List.nodup_range.sublist List.filter_sublist⟩
theorem nb_ext {P Q : List Nat} (hl : P.length = Q.length) (h : ∀ i, nb P i = nb Q i) : P = Q := by
  refine List.ext_getElem hl fun i h1 h2 => ?_
  have := h i
  simpa [nb, List.getD, List.getElem?_eq_getElem h1, List.getElem?_eq_getElem h2] using this
theorem rE_full {n b : Nat} {Q : List Nat} (h : GOk n Q) (hb : b < 2 ^ n) : rE Q b (listOf b) (listOf b).length = qE Q (listOf b) (listOf b).length := by
  have hv := listOf_verts hb
  have hq := qE_ok h hv _ (Nat.le_refl _)
  refine nb_ext (by rw [rE_len, h.len, hq.len]) fun i => Nat.eq_of_testBit_eq fun j => ?_
  rw [Bool.eq_iff_iff, rE_bits h.len hv _ (Nat.le_refl _), qE_bits h hv _ (Nat.le_refl _), List.take_length]
  have hm : ∀ x, x ∈ listOf b ↔ b.testBit x = true := fun x => by
    rw [mem_listOf]
    exact ⟨fun h => h.2, fun hx => ⟨Nat.lt_of_lt_of_le (bit_lt hb hx) h.le, hx⟩⟩
  rw [hm, hm]
  constructor
  · rintro (h1 | ⟨h1, h2, h3⟩)
    · exact .inl h1
    · exact .inr ⟨h3, h1, h2⟩
  · rintro (h1 | ⟨h1, h2, h3⟩)
    · exact .inl h1
    · exact .inr ⟨h2, h3, h1⟩
theorem tE_ok {n : Nat} {B : List Nat} (h1 : 1 ≤ n) (h7 : n ≤ 7) : ∀ m, (∀ j, j < m → nb B j < 2 ^ n) → GOk n (tE n B m)
  | 0, _ => GOk.empty h1 h7
  | m + 1, h => qE_ok (tE_ok h1 h7 m fun j hj => h j (by omega)) (listOf_verts (h m (by omega))) _ (Nat.le_refl _)
/-- Whether there is such a graph: a tree, a number of vertices, all bags among them. -/
def hasGoT (B P : List Int) (n : Int) : Bool := isTree B P && decide (1 ≤ n) && decide (n ≤ 7) && B.all fun x => decide (x < 2 ^ n.toNat)
def goTRows (B P : List Int) (n : Int) : List Int := if hasGoT B P n then ints (tE n.toNat (B.map Int.toNat) B.length) else []
def goTNum (B P : List Int) (n : Int) : Int := if hasGoT B P n then n else 0
theorem isTree_cases (B P : List Int) : isTree B P = false ∨ isTree B P = true ∧ ∃ b : List Nat, B = ints b ∧ (∀ j, nb b j < 128) ∧ 1 ≤ b.length ∧ b.length ≤ 20 ∧ P.length = b.length := by
  rcases Bool.eq_false_or_eq_true (isTree B P) with h | h
  · obtain ⟨h1, h2, h3, h4⟩ := isTree_spec h
    have hb : ∀ j, j < B.length → 0 ≤ B.getD j 0 ∧ B.getD j 0 ≤ 127 := fun j hj => by
      have := h4 j hj
      by_cases e : j = 0
      · subst e; exact (tOk_zero.1 this).1
      · exact (tOk_pos (by omega)).1 this |>.1
    have hB := ints_nats (R := B) fun i hi => (hb i hi).1
    refine .inr ⟨h, B.map Int.toNat, hB, fun j => ?_, by rwa [List.length_map], by rwa [List.length_map], by rw [List.length_map]; exact h3⟩
    rcases Nat.lt_or_ge j B.length with hj | hj
    · have := hb j hj
      have e : B.getD j 0 = ((nb (B.map Int.toNat) j : Nat) : Int) := by rw [← ints_nb, ← hB]
      omega
    · have : nb (B.map Int.toNat) j = 0 := getD_out (by rw [List.length_map]; exact hj)
      omega
  · exact .inl h
theorem goT_no {B P : List Int} {n : Int} (h : hasGoT B P n = false) : goTRows B P n = [] ∧ goTNum B P n = 0 := by rw [goTRows, goTNum, h]; exact ⟨rfl, rfl⟩
theorem hasGoT_tree {B P : List Int} {n : Int} (h : isTree B P = false) : hasGoT B P n = false := by rw [hasGoT, h]; rfl
theorem hasGoT_num {B P : List Int} {n : Int} (h : ¬ (1 ≤ n ∧ n ≤ 7)) : hasGoT B P n = false := by
  rw [hasGoT]
  by_cases h1 : 1 ≤ n
  · rw [show decide (n ≤ 7) = false by simp; omega]; simp
  · rw [show decide (1 ≤ n) = false by simp; omega]; simp
theorem all_bags {b : List Nat} {n : Nat} : ((ints b).all fun x => decide (x < 2 ^ n)) = true ↔ ∀ j, j < b.length → nb b j < 2 ^ n := by
  rw [List.all_eq_true]
  constructor
  · intro h j hj
    have hm : ((nb b j : Nat) : Int) ∈ ints b := ints_mem'.2 (nb_mem hj)
    have h1 := of_decide_eq_true (h _ hm)
    have h2 : ((2 : Int) ^ n) = ((2 ^ n : Nat) : Int) := by norm_cast
    omega
  · intro h x hx
    obtain ⟨y, hy, rfl⟩ := ints_mem.1 hx
    obtain ⟨j, hj, rfl⟩ := List.mem_iff_getElem.1 hy
    have h1 := h j hj
    have e : nb b j = b[j] := by simp [nb, List.getD, List.getElem?_eq_getElem hj]
    have h2 : ((2 : Int) ^ n) = ((2 ^ n : Nat) : Int) := by norm_cast
    exact decide_eq_true (by omega)
theorem hasGoT_yes {b : List Nat} {P : List Int} {n : Nat} (h : isTree (ints b) P = true) (h1 : 1 ≤ n) (h7 : n ≤ 7) (hb : ∀ j, j < b.length → nb b j < 2 ^ n) : hasGoT (ints b) P n = true ∧ goTRows (ints b) P n = ints (tE n b b.length) ∧ goTNum (ints b) P n = n := by
  have e : hasGoT (ints b) P n = true := by
    rw [hasGoT, h, Int.toNat_natCast, all_bags.2 hb, decide_eq_true (show (1 : Int) ≤ n by omega), decide_eq_true (show (n : Int) ≤ 7 by omega)]; rfl
  refine ⟨e, ?_, by rw [goTNum, if_pos e]⟩
  rw [goTRows, if_pos e, Int.toNat_natCast, ints_len]
  congr 2
  simp [ints, List.map_map, Function.comp_def]
theorem hasGoT_out {b : List Nat} {P : List Int} {n j : Nat} (hj : j < b.length) (hb : ¬ nb b j < 2 ^ n) : hasGoT (ints b) P n = false := by
  rw [hasGoT, Int.toNat_natCast]
  have : ((ints b).all fun x => decide (x < 2 ^ n)) = false := by
    rw [← Bool.not_eq_true]
    exact fun e => hb (all_bags.1 e j hj)
  rw [this, Bool.and_false]
theorem goTRows_len (B P : List Int) (n : Int) : (goTRows B P n).length ≤ 7 := by
  rcases Bool.eq_false_or_eq_true (hasGoT B P n) with h | h
  · have h0 := h
    rw [hasGoT] at h
    simp only [Bool.and_eq_true, decide_eq_true_eq] at h
    obtain ⟨⟨⟨h1, h2⟩, h3⟩, h4⟩ := h
    obtain ⟨k, rfl⟩ : ∃ k : Nat, n = k := ⟨n.toNat, by omega⟩
    rcases isTree_cases B P with hg | ⟨_, b, rfl, _⟩
    · rw [hg] at h1; cases h1
    · rw [Int.toNat_natCast] at h4
      obtain ⟨_, e, _⟩ := hasGoT_yes h1 (n := k) (by omega) (by omega) (all_bags.1 h4)
      rw [e, ints_len, (tE_ok (by omega) (by omega) _ (all_bags.1 h4)).len]
      omega
  · rw [(goT_no h).1]; simp
end Go.Proofs.YthncdjcmlpiebaaGreatDoor
