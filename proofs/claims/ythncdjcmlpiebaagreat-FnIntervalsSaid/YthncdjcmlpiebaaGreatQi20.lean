/- The reference's sorting. Walks of chapter 10: IsCliqueOrder. -/
import Derived.Test.YthncdjcmlpiebaaGreatQi01
import Derived.Test.YthncdjcmlpiebaaGreatQi03
import Derived.Test.YthncdjcmlpiebaaGreatQi04
import Derived.Test.YthncdjcmlpiebaaGreatQi06
import Derived.Test.YthncdjcmlpiebaaGreatQi18
import Derived.Test.YthncdjcmlpiebaaGreatQi19
namespace Go.Proofs.YthncdjcmlpiebaaGreat
open Go.RowKit
set_option maxRecDepth 100000 in
theorem RI.dropS {w : World} {g n k : Nat} {xs : List Int} (h : RI w (some ⟨g, 0, none⟩) n xs) (hk : k ≤ n) : RI w (some ⟨g, k, none⟩) (n - k) (xs.drop k) := by
  refine ⟨by rw [List.length_drop, h.1], fun hn => ⟨_, rfl, fun j hj => ?_⟩⟩
  obtain ⟨ad, e, _, hc⟩ := h.at_ (k := k + j) (by omega)
  injection e with e
  subst e
  have e1 : (⟨g, k, none⟩ : Addr).add j = ⟨g, k + j, none⟩ := by unfold Addr.add; split <;> simp_all
  rw [add_0_] at hc
  rw [e1, hc]
  simp [List.getD]
set_option maxRecDepth 100000 in
set_option maxHeartbeats 4000000 in
theorem l8Sorted_any (A : Option Addr) (n c : Nat) (xs : List Int) (w : World) (hA : RI w A n xs) (hn : n ≤ 1048576) :
    Calls Tryz.prog 119 #[.slice A n c] w fun e w' => ∃ A1 c1, e = .returned (.slice A1 n c1) ∧ OwnI w' w.heap.size A1 n c1 (sortI xs) ∧ Below w.heap.size w w' := by
  have hown0 := OwnI.made (base := w.heap.size) w (Nat.le_refl _)
  have HALL := Lib.hid (show insK xs n = sortI xs by rw [← hA.1]; exact insK_all xs)
  have HK := Lib.hid (show ∀ j, insK xs (j + 1) = insI (insK xs j) (xs.getD j 0) from fun _ => rfl)
  go_enter Tryz.func119, Tryz.ntmps119
  go_wp2_with fail
  go_loopw [3, 4] (fun o i wr => ∃ (j g c3 : Nat), j ≤ n ∧ i = .int .i64 j ∧ o = .slice (some ⟨g, 0, none⟩) j c3 ∧ OwnI wr w.heap.size (some ⟨g, 0, none⟩) j c3 (insK xs j) ∧ Below w.heap.size w wr) (fun _ i _ => n - (intOf i).toNat)
  case atStart => exact ⟨0, w.heap.size, 0, Nat.zero_le _, rfl, rfl, hown0, by go_grown⟩
  case round =>
    clear hown0
    obtain ⟨j, g, c3, hj, rfl, rfl, hown, hb⟩ := hrel
    obtain ⟨wo, rfl⟩ : ∃ wo : World, wo = wr := ⟨_, rfl⟩
    by_cases hjt : j < n
    · obtain ⟨a, rfl, habs, hca⟩ := (hA.up hb).at_ hjt
      have HKj := Lib.hid (HK.out j)
      have hol : (insK xs j).length = j := insK_len xs j
      obtain ⟨x, hx⟩ : ∃ x, x = xs.getD j 0 := ⟨_, rfl⟩
      obtain ⟨out, hout⟩ : ∃ out, out = insK xs j := ⟨_, rfl⟩
      rw [← hx] at hca HKj
      rw [← hout] at hown HKj hol
      clear hx hout
      have HOL := Lib.hid hol
      have HP := Lib.hid (show posI out x = posK out x j by rw [posI, hol])
      have HPK := Lib.hid (show ∀ k, posK out x (k + 1) = if x < out.getD k 0 then posK out x k else k + 1 from fun _ => rfl)
      clear hol
      go_wp2_with fail
      go_loopw [5] (fun i wr => ∃ k : Nat, k ≤ j ∧ i = .int .i64 k ∧ Up wo wr ∧ Hid (posK out x k = posI out x)) (fun i _ => (intOf i).toNat)
      case atStart => exact ⟨j, Nat.le_refl _, rfl, Up.refl _, HP.out.symm⟩
      case round =>
        obtain ⟨k, hk, rfl, hb2, hpk⟩ := hrel
        obtain ⟨w2, rfl⟩ : ∃ w2 : World, w2 = wr := ⟨_, rfl⟩
        have hown2 := hown.up hb2
        have hca2 := (hb2.cell (p := a.add j) (by rw [block_of_add]; exact habs)).trans hca
        by_cases hk0 : k = 0
        · have HN := Lib.hid (show posI out x = k by rw [← hpk.out, hk0]; rfl)
          have hk1 : ¬ 0 < k := by omega
          have hal : a.block < w2.heap.size := Nat.lt_of_lt_of_le habs hb2.size
          clear hk0
          go_wp2
          have hV0 : Up w2 w2.drew := (Up.refl _).drew
          refine wp_region_calm (S := (fun w' => Up w2 w' ∧ (∀ b o, b < w2.heap.size → w'.cell? ⟨b, o, none⟩ = w2.cell? ⟨b, o, none⟩))) (by kernel_rfl) (by kernel_rfl) (by exact ⟨hV0, fun _ _ hb => hV0.cell hb⟩) ?_
          repeat (first | (refine CalmSeq.cons undef (Calm.off (by rfl)) ?_; (try simp only [Act.put, List.setIfInBounds_toArray, List.set_cons_zero, List.set_cons_succ])) | (refine CalmSeq.cons ?_ (Calm.val (by rfl) ?_) ?_; rotate_left; (intro wC hSw; (try dsimp only at hSw); go_simp; done); (try simp only [Act.put, List.setIfInBounds_toArray, List.set_cons_zero, List.set_cons_succ])) | (refine CalmSeq.cons ?_ (Calm.val (by rfl) ?_) ?_; rotate_left; (intro wC hSw; (try dsimp only at hSw); go_simp; with_reducible rfl); (try simp only [Act.put, List.setIfInBounds_toArray, List.set_cons_zero, List.set_cons_succ])))
          intro w3 hS3
          have hU3 : Up w2 w3 := hS3.1
          clear hS3 hV0
          go_wp2_with fail
          have hca3 := (hU3.cell (p := a.add j) (by rw [block_of_add]; exact hal)).trans hca2
          have hal3 : a.block < w3.heap.size := Nat.lt_of_lt_of_le hal hU3.size
          have hown3 := hown2.up hU3
          have hri3 := hown3.ri
          have hT := hri3.take hk
          have hS := hri3.dropS hk
          have hgl3 : g < w3.heap.size := (hown3.block g rfl).2
          have hcap := hown3.cap
          have HSum := Lib.hid (show k + 1 + (j - k) = j + 1 by omega)
          have hkb : k ≤ 1048576 := by omega
          have hkb1 : k + 1 ≤ 1048576 := by omega
          have hkb2 : k + 1 + (j - k) ≤ 1048576 := by omega
          have hE := OwnI.made (base := w3.heap.size) w3 (Nat.le_refl _)
          have hcA : ∀ o, (w3.alloc o).cell? (a.add j) = some (.int .i64 x) := fun o => (World.cell?_alloc_lt w3 o _ (by rw [block_of_add]; exact hal3)).trans hca3
          have hE2 := (hE.alloc (.cells #[.int .i64 x] 3)).drew
          have hE3 : OwnI ((w3.alloc (.cells #[.int .i64 x] 3)).alloc (.cells #[] 3)).drew w3.heap.size (some ⟨w3.heap.size + 1, 0, none⟩) 0 0 [] := (OwnI.made_at (by simp) (by omega)).drew
          have hX2 : Blk ((w3.alloc (.cells #[] 3)).alloc (.cells #[.int .i64 x] 3)).drew (w3.heap.size + 1) 3 #[.int .i64 x] := (Blk.new_at (by simp)).drew
          have hX3 : Blk ((w3.alloc (.cells #[.int .i64 x] 3)).alloc (.cells #[] 3)).drew w3.heap.size 3 #[.int .i64 x] := ((Blk.new w3 3 _).alloc _).drew
          have hD1 := (hT.alloc (.cells #[] 3)).drew
          have hD2 := ((hT.alloc (.cells #[] 3)).alloc (.cells #[.int .i64 x] 3)).drew
          have hD3 := ((hT.alloc (.cells #[.int .i64 x] 3)).alloc (.cells #[] 3)).drew
          replace hE := hE.drew
          have hkc : k ≤ c3 := by omega
          obtain ⟨z, hif, hS⟩ : ∃ z, (if c3 = k then some (⟨g, 0, none⟩ : Addr) else some ⟨g, k, none⟩) = some ⟨g, z, none⟩ ∧ RI w3 (some ⟨g, z, none⟩) (j - k) (out.drop k) := by
            by_cases e : c3 = k
            · refine ⟨0, if_pos e, ?_⟩
              have hjk : j = k := by omega
              exact ⟨by rw [List.length_drop, HOL.out], fun hn => absurd hn (by omega)⟩
            · exact ⟨k, if_neg e, hS⟩
          go_region_law (first
              | (refine step_append_new rfl (.tmp 31) (.tmp 34) rfl rfl hE rfl hD1 hkb (by simp) ?_; intro A4 c4 w4 hown4 hb4 hg4; have hX4' := (Blk.new w4 3 #[.int .i64 x]).ri (xs := [x]) rfl; have hO4 := hown4.alloc (.cells #[.int .i64 x] 3); have hU4 : Up w3 w4 := Below.trans (by go_grown) hb4; have hc4 := (hU4.cell (p := a.add j) (by rw [block_of_add]; exact hal3)).trans hca3)
              | (refine step_append_new rfl (.tmp 31) (.tmp 34) rfl rfl hE2 rfl hD2 hkb (by simp; omega) ?_; intro A4 c4 w4 hown4 hb4 hg4; have hX4' := (hX2.grown hg4 (by simp [Value.ownBlock])).ri (xs := [x]) rfl; have hO4 := hown4; have hU4 : Up w3 w4 := Below.trans (by go_grown) hb4; have hc4 := (hU4.cell (p := a.add j) (by rw [block_of_add]; exact hal3)).trans hca3)
              | (refine step_append_new rfl (.tmp 31) (.tmp 34) rfl rfl hE3 rfl hD3 hkb (by simp; omega) ?_; intro A4 c4 w4 hown4 hb4 hg4; have hX4' := (hX3.grown hg4 (by simp [Value.ownBlock])).ri (xs := [x]) rfl; have hO4 := hown4; have hU4 : Up w3 w4 := Below.trans (by go_grown) hb4; have hc4 := (hU4.cell (p := a.add j) (by rw [block_of_add]; exact hal3)).trans hca3)
              | (refine step_append_own rfl (.tmp 35) (.tmp 40) rfl rfl hO4 rfl hX4' hkb1 (by have := hU4.size; first | exact this | (simp; omega)) ?_; intro A5 c5 w5 hown5 hb5 hg5; have hU5 : Up w3 w5 := (by first | exact hU4.trans hb5 | exact (hU4.alloc hU4.size _).trans hb5); have hS5 := hS.up hU5)
              | (refine step_append_own rfl (.tmp 41) (.tmp 44) rfl rfl hown5 rfl hS5 hkb2 hU5.size ?_; intro A6 c6 w6 hown6 hb6 hg6; have hU6 : Up w3 w6 := hU5.trans hb6))
          all_goals
            have hx6 : OwnI w6 w3.heap.size A6 (j + 1) c6 (insK xs (j + 1)) := hown6.cast HSum.out (by rw [HKj.out, insI, HN.out])
            obtain ⟨g6, rfl⟩ := hx6.form (Nat.succ_pos j)
            have hw6 : Below w.heap.size w w6 := Up.then_ hb (Up.then_ hb2 (Up.then_ hU3 hU6))
            have hbs3 : w.heap.size ≤ w3.heap.size := (Up.then_ hb (Up.then_ hb2 hU3)).size
            clear hE hE2 hE3 hX2 hX3 hD1 hD2 hD3 hT hS hS5 hown6 hg6 hb6 hown5 hg5 hb5 hX4' hO4 hown4 hb4 hg4 hc4 hcA hca3 hif hri3
            go_wp2_with fail
            go_roundw
            case rel => exact ⟨j + 1, g6, c6, by omega, by go_num, by rw [HSum.out], hx6.more hbs3, hw6⟩
            case measure => simp [intOf]; omega
        · obtain ⟨p, hp⟩ : ∃ p, p = k - 1 := ⟨_, rfl⟩
          have hpj : p < j := by omega
          obtain ⟨ad, e, _, hcy⟩ := hown2.ri.at_ hpj
          injection e with e
          subst e
          rw [add_0_] at hcy
          have hgl : g < w2.heap.size := (hown2.block g rfl).2
          have hal : a.block < w2.heap.size := Nat.lt_of_lt_of_le habs hb2.size
          have hk1 : 0 < k := by omega
          obtain ⟨y, hy⟩ : ∃ y, y = out.getD p 0 := ⟨_, rfl⟩
          rw [← hy] at hcy
          have hstep := Lib.hid (show posK out x k = if x < y then posK out x p else k by
            have := HPK.out p
            rw [show p + 1 = k by omega, ← hy] at this
            exact this)
          have hwi : IntKind.i64.wrap ((k : Int) - 1) = (p : Int) := by
            have : (k : Int) - 1 = (p : Int) := by omega
            rw [this, IntWalk.i64_left]; exact IntWalk.wrap64_in _ ⟨by omega, by omega⟩
          have HPk := Lib.hid (show k = p + 1 by omega)
          have hwp : wrap64 ((k : Int) - 1) = (p : Int) := by rw [← IntWalk.i64_left]; exact hwi
          clear hy hp hk0
          by_cases hxy : x < y
          · have d1 : decide (x < y) = true := decide_eq_true hxy
            have HN := Lib.hid (show posK out x p = posI out x by rw [← hpk.out, hstep.out, if_pos hxy])
            go_wp2
            have hV0 : Up w2 w2.drew := (Up.refl _).drew
            refine wp_region_calm (S := (fun w' => Up w2 w' ∧ (∀ b o, b < w2.heap.size → w'.cell? ⟨b, o, none⟩ = w2.cell? ⟨b, o, none⟩) ∧ w'.cell? (⟨g, p, none⟩) = some (.int .i64 y) ∧ w'.cell? (a.add j) = some (.int .i64 x))) (by kernel_rfl) (by kernel_rfl) (by exact ⟨hV0, fun _ _ hb => hV0.cell hb, (hV0.cell (by first | assumption | (rw [block_of_add]; assumption))).trans (by assumption), (hV0.cell (by first | assumption | (rw [block_of_add]; assumption))).trans (by assumption)⟩) ?_
            repeat (first | (refine CalmSeq.cons undef (Calm.off (by rfl)) ?_; (try simp only [Act.put, List.setIfInBounds_toArray, List.set_cons_zero, List.set_cons_succ])) | (refine CalmSeq.cons ?_ (Calm.val (by rfl) ?_) ?_; rotate_left; (intro wC hSw; (try dsimp only at hSw); go_simp; done); (try simp only [Act.put, List.setIfInBounds_toArray, List.set_cons_zero, List.set_cons_succ])) | (refine CalmSeq.cons ?_ (Calm.val (by rfl) ?_) ?_; rotate_left; (intro wC hSw; (try dsimp only at hSw); go_simp; with_reducible rfl); (try simp only [Act.put, List.setIfInBounds_toArray, List.set_cons_zero, List.set_cons_succ])))
            intro w3 hS3
            have hU3 : Up w2 w3 := hS3.1
            clear hS3 hV0
            go_wp2
            go_roundw
            case rel => exact ⟨p, Nat.le_of_lt hpj, rfl, Up.then_ hb2 hU3, HN.out⟩
            case measure => have := HPk.out; clear hwi hwp; simp [intOf]; omega
          · have d1 : decide (x < y) = false := decide_eq_false hxy
            have HN := Lib.hid (show posI out x = k by rw [← hpk.out, hstep.out, if_neg hxy])
            go_wp2
            have hV0 : Up w2 w2.drew := (Up.refl _).drew
            refine wp_region_calm (S := (fun w' => Up w2 w' ∧ (∀ b o, b < w2.heap.size → w'.cell? ⟨b, o, none⟩ = w2.cell? ⟨b, o, none⟩) ∧ w'.cell? (⟨g, p, none⟩) = some (.int .i64 y) ∧ w'.cell? (a.add j) = some (.int .i64 x))) (by kernel_rfl) (by kernel_rfl) (by exact ⟨hV0, fun _ _ hb => hV0.cell hb, (hV0.cell (by first | assumption | (rw [block_of_add]; assumption))).trans (by assumption), (hV0.cell (by first | assumption | (rw [block_of_add]; assumption))).trans (by assumption)⟩) ?_
            repeat (first | (refine CalmSeq.cons undef (Calm.off (by rfl)) ?_; (try simp only [Act.put, List.setIfInBounds_toArray, List.set_cons_zero, List.set_cons_succ])) | (refine CalmSeq.cons ?_ (Calm.val (by rfl) ?_) ?_; rotate_left; (intro wC hSw; (try dsimp only at hSw); go_simp; done); (try simp only [Act.put, List.setIfInBounds_toArray, List.set_cons_zero, List.set_cons_succ])) | (refine CalmSeq.cons ?_ (Calm.val (by rfl) ?_) ?_; rotate_left; (intro wC hSw; (try dsimp only at hSw); go_simp; with_reducible rfl); (try simp only [Act.put, List.setIfInBounds_toArray, List.set_cons_zero, List.set_cons_succ])))
            intro w3 hS3
            have hU3 : Up w2 w3 := hS3.1
            clear hS3 hV0
            go_wp2_with fail
            have hca3 := (hU3.cell (p := a.add j) (by rw [block_of_add]; exact hal)).trans hca2
            have hal3 : a.block < w3.heap.size := Nat.lt_of_lt_of_le hal hU3.size
            have hown3 := hown2.up hU3
            have hri3 := hown3.ri
            have hT := hri3.take hk
            have hS := hri3.dropS hk
            have hgl3 : g < w3.heap.size := (hown3.block g rfl).2
            have hcap := hown3.cap
            have HSum := Lib.hid (show k + 1 + (j - k) = j + 1 by omega)
            have hkb : k ≤ 1048576 := by omega
            have hkb1 : k + 1 ≤ 1048576 := by omega
            have hkb2 : k + 1 + (j - k) ≤ 1048576 := by omega
            have hE := OwnI.made (base := w3.heap.size) w3 (Nat.le_refl _)
            have hcA : ∀ o, (w3.alloc o).cell? (a.add j) = some (.int .i64 x) := fun o => (World.cell?_alloc_lt w3 o _ (by rw [block_of_add]; exact hal3)).trans hca3
            have hE2 := (hE.alloc (.cells #[.int .i64 x] 3)).drew
            have hE3 : OwnI ((w3.alloc (.cells #[.int .i64 x] 3)).alloc (.cells #[] 3)).drew w3.heap.size (some ⟨w3.heap.size + 1, 0, none⟩) 0 0 [] := (OwnI.made_at (by simp) (by omega)).drew
            have hX2 : Blk ((w3.alloc (.cells #[] 3)).alloc (.cells #[.int .i64 x] 3)).drew (w3.heap.size + 1) 3 #[.int .i64 x] := (Blk.new_at (by simp)).drew
            have hX3 : Blk ((w3.alloc (.cells #[.int .i64 x] 3)).alloc (.cells #[] 3)).drew w3.heap.size 3 #[.int .i64 x] := ((Blk.new w3 3 _).alloc _).drew
            have hD1 := (hT.alloc (.cells #[] 3)).drew
            have hD2 := ((hT.alloc (.cells #[] 3)).alloc (.cells #[.int .i64 x] 3)).drew
            have hD3 := ((hT.alloc (.cells #[.int .i64 x] 3)).alloc (.cells #[] 3)).drew
            replace hE := hE.drew
            have hkc : k ≤ c3 := by omega
            obtain ⟨z, hif, hS⟩ : ∃ z, (if c3 = k then some (⟨g, 0, none⟩ : Addr) else some ⟨g, k, none⟩) = some ⟨g, z, none⟩ ∧ RI w3 (some ⟨g, z, none⟩) (j - k) (out.drop k) := by
              by_cases e : c3 = k
              · refine ⟨0, if_pos e, ?_⟩
                have hjk : j = k := by omega
                exact ⟨by rw [List.length_drop, HOL.out], fun hn => absurd hn (by omega)⟩
              · exact ⟨k, if_neg e, hS⟩
            go_region_law (first
                | (refine step_append_new rfl (.tmp 31) (.tmp 34) rfl rfl hE rfl hD1 hkb (by simp) ?_; intro A4 c4 w4 hown4 hb4 hg4; have hX4' := (Blk.new w4 3 #[.int .i64 x]).ri (xs := [x]) rfl; have hO4 := hown4.alloc (.cells #[.int .i64 x] 3); have hU4 : Up w3 w4 := Below.trans (by go_grown) hb4; have hc4 := (hU4.cell (p := a.add j) (by rw [block_of_add]; exact hal3)).trans hca3)
                | (refine step_append_new rfl (.tmp 31) (.tmp 34) rfl rfl hE2 rfl hD2 hkb (by simp; omega) ?_; intro A4 c4 w4 hown4 hb4 hg4; have hX4' := (hX2.grown hg4 (by simp [Value.ownBlock])).ri (xs := [x]) rfl; have hO4 := hown4; have hU4 : Up w3 w4 := Below.trans (by go_grown) hb4; have hc4 := (hU4.cell (p := a.add j) (by rw [block_of_add]; exact hal3)).trans hca3)
                | (refine step_append_new rfl (.tmp 31) (.tmp 34) rfl rfl hE3 rfl hD3 hkb (by simp; omega) ?_; intro A4 c4 w4 hown4 hb4 hg4; have hX4' := (hX3.grown hg4 (by simp [Value.ownBlock])).ri (xs := [x]) rfl; have hO4 := hown4; have hU4 : Up w3 w4 := Below.trans (by go_grown) hb4; have hc4 := (hU4.cell (p := a.add j) (by rw [block_of_add]; exact hal3)).trans hca3)
                | (refine step_append_own rfl (.tmp 35) (.tmp 40) rfl rfl hO4 rfl hX4' hkb1 (by have := hU4.size; first | exact this | (simp; omega)) ?_; intro A5 c5 w5 hown5 hb5 hg5; have hU5 : Up w3 w5 := (by first | exact hU4.trans hb5 | exact (hU4.alloc hU4.size _).trans hb5); have hS5 := hS.up hU5)
                | (refine step_append_own rfl (.tmp 41) (.tmp 44) rfl rfl hown5 rfl hS5 hkb2 hU5.size ?_; intro A6 c6 w6 hown6 hb6 hg6; have hU6 : Up w3 w6 := hU5.trans hb6))
            all_goals
              have hx6 : OwnI w6 w3.heap.size A6 (j + 1) c6 (insK xs (j + 1)) := hown6.cast HSum.out (by rw [HKj.out, insI, HN.out])
              obtain ⟨g6, rfl⟩ := hx6.form (Nat.succ_pos j)
              have hw6 : Below w.heap.size w w6 := Up.then_ hb (Up.then_ hb2 (Up.then_ hU3 hU6))
              have hbs3 : w.heap.size ≤ w3.heap.size := (Up.then_ hb (Up.then_ hb2 hU3)).size
              clear hE hE2 hE3 hX2 hX3 hD1 hD2 hD3 hT hS hS5 hown6 hg6 hb6 hown5 hg5 hb5 hX4' hO4 hown4 hb4 hg4 hc4 hcA hca3 hif hri3
              go_wp2_with fail
              go_roundw
              case rel => exact ⟨j + 1, g6, c6, by omega, by go_num, by rw [HSum.out], hx6.more hbs3, hw6⟩
              case measure => simp [intOf]; omega
    · obtain rfl : j = n := by omega
      go_wp2
      go_ret
      exact ⟨_, c3, rfl, by rw [← HALL.out]; exact hown, hb⟩
end Go.Proofs.YthncdjcmlpiebaaGreat
namespace Go.Proofs.YthncdjcmlpiebaaGreat
open Go.RowKit
def isCliqOrd (N : Int) (X l : List Int) : Bool := isGraph N X && decide (sortI l = ints (maxCliquesOf N X)) && fol (l.map Int.toNat)
set_option maxRecDepth 100000 in
theorem isCliqOrd_no {N : Int} {X l : List Int} (h : isGraph N X = false) : isCliqOrd N X l = false := by rw [isCliqOrd, h]; rfl
set_option maxRecDepth 100000 in
theorem isCliqOrd_ne {N : Int} {X l : List Int} (h : decide (sortI l = ints (maxCliquesOf N X)) = false) : isCliqOrd N X l = false := by rw [isCliqOrd, h, Bool.and_false]; rfl
set_option maxRecDepth 100000 in
theorem isCliqOrd_yes {N : Int} {X l : List Int} (hg : isGraph N X = true) (h : decide (sortI l = ints (maxCliquesOf N X)) = true) : isCliqOrd N X l = fol (l.map Int.toNat) := by rw [isCliqOrd, hg, h]; rfl
set_option maxRecDepth 100000 in
theorem sorted_nats {N : Int} {X l : List Int} (hg : isGraph N X = true) (h : decide (sortI l = ints (maxCliquesOf N X)) = true) : l = ints (l.map Int.toNat) ∧ ∀ x ∈ l.map Int.toNat, x < 2 ^ 7 := by
  have he : sortI l = ints (maxCliquesOf N X) := of_decide_eq_true h
  obtain ⟨n, Q, rfl, rfl, hk⟩ := isGraph_ok hg
  rw [maxCliquesOf_ok hk] at he
  have hm : ∀ z ∈ l, ∃ x : Nat, z = x ∧ x < 2 ^ 7 := by
    intro z hz
    have : z ∈ ints (maxCliques Q n) := by rw [← he]; exact (sortI_perm l).mem_iff.2 hz
    obtain ⟨x, hx, rfl⟩ := List.mem_map.1 this
    exact ⟨x, rfl, hk.n7 (maxCliques_lt hx)⟩
  refine ⟨?_, fun x hx => ?_⟩
  · refine ints_nats fun i hi => ?_
    obtain ⟨x, e, _⟩ := hm l[i] (List.getElem_mem hi)
    rw [getD_memI hi, e]; omega
  · obtain ⟨z, hz, rfl⟩ := List.mem_map.1 hx
    obtain ⟨y, rfl, hy⟩ := hm z hz
    simpa using hy
set_option maxRecDepth 100000 in
theorem implCliques_out {N : Int} {A : Option Addr} {n c : Nat} {X : List Int} {w : World} (hX : RI w A n X) (hn : n ≤ 9223372036854775807) :
    Calls Tryz.prog 97 #[.agg #[.int .i64 N, .slice A n c]] w fun e w' => ∃ B d, e = .returned (.slice B (maxCliquesOf N X).length d) ∧ OwnI w' w.heap.size B (maxCliquesOf N X).length d (ints (maxCliquesOf N X)) ∧ Below w.heap.size w w' :=
  (implMaximalCliques_any N A n c X w hX hn).mono fun _ _ h => h.out
set_option maxRecDepth 100000 in
theorem slEqual_is {A B : Option Addr} {n m ca cb : Nat} {xs ys : List Int} {w : World} {b : Bool} (hA : RI w A n xs) (hB : RI w B m ys) (hn : n ≤ 9223372036854775807) (hb : decide (xs = ys) = b) :
    Calls Tryz.prog 95 #[.slice A n ca, .slice B m cb] w fun e w' => e = .returned (.bool b) ∧ Below w.heap.size w w' := by
  subst hb; exact slEqual_any A B n m ca cb xs ys w hA hB hn
set_option maxRecDepth 100000 in
theorem follow_up {A : Option Addr} {m c : Nat} {o : List Nat} {w : World} {b : Bool} (hL : RI w A m (ints o)) (ho : ∀ x ∈ o, x < 2 ^ 7) (hm : m ≤ 9223372036854775807) (hb : fol o = b) :
    Calls Tryz.prog 98 #[.slice A m c] w fun e w' => e = .returned (.bool b) ∧ Below w.heap.size w w' :=
  (follow_is hL ho hm hb).mono fun _ _ h => ⟨h.1, h.2 ▸ Below.refl _ _⟩
set_option maxRecDepth 100000 in
set_option maxHeartbeats 2000000 in
theorem implIsCliqueOrder_any (N : Int) (A B : Option Addr) (n c m d : Nat) (X l : List Int) (w : World) (hX : RI w A n X) (hL : RI w B m l) (hn : n ≤ 9223372036854775807) (hm : m ≤ 1048576) :
    Calls Tryz.prog 35 #[.agg #[.int .i64 N, .slice A n c], .slice B m d] w fun e w' => e = .returned (.bool (isCliqOrd N X l)) ∧ Below w.heap.size w w' := by
  have hbk := Blk.new w 26 #[.int .i64 N, .slice A n c]
  have hU0 : Up w (w.alloc (.cells #[.int .i64 N, .slice A n c] 26)) := by go_grown
  have hXa := hX.up hU0
  have hLa := hL.up hU0
  have hya := hbk.two
  have hla := hbk.lt
  have hm2 : m ≤ 9223372036854775807 := by omega
  have hbka := hbk
  obtain ⟨wa, hwa⟩ : ∃ wa, wa = w.alloc (.cells #[.int .i64 N, .slice A n c] 26) := ⟨_, rfl⟩
  rw [← hwa] at hU0 hXa hLa hya hla hbka
  obtain ⟨g, hg⟩ : ∃ g, g = isGraph N X := ⟨_, rfl⟩
  have HG := Lib.hid hg.symm
  clear hg
  cases g
  · rw [isCliqOrd_no HG.out]
    go_enter Tryz.func35, Tryz.ntmps35
    go_wp2
    rw [← hwa]
    have hV0 : Up wa wa.drew := (Up.refl _).drew
    refine wp_region_calm (S := (fun w' => Up wa w' ∧ (∀ b o, b < wa.heap.size → w'.cell? ⟨b, o, none⟩ = wa.cell? ⟨b, o, none⟩))) (by kernel_rfl) (by kernel_rfl) (by exact ⟨hV0, fun _ _ hb => hV0.cell hb⟩) ?_
    repeat (first | (refine CalmSeq.cons undef (Calm.off (by rfl)) ?_; (try simp only [Act.put, List.setIfInBounds_toArray, List.set_cons_zero, List.set_cons_succ])) | (refine CalmSeq.cons ?_ (Calm.val (by rfl) ?_) ?_; rotate_left; (intro wC hSw; (try dsimp only at hSw); go_simp; done); (try simp only [Act.put, List.setIfInBounds_toArray, List.set_cons_zero, List.set_cons_succ])) | (refine CalmSeq.cons ?_ (Calm.val (by rfl) ?_) ?_; rotate_left; (intro wC hSw; (try dsimp only at hSw); go_simp; with_reducible rfl); (try simp only [Act.put, List.setIfInBounds_toArray, List.set_cons_zero, List.set_cons_succ])) | ((refine CalmSeq.cons ?_ (Calm.call (f := ?_) (args := ?_) (by rfl) ?_ (fun wC hSw => ?_)) ?_; rotate_left 3; (intro wC; go_simp; (refine ⟨?_, ?_⟩ <;> with_reducible rfl)); (go_at_call 94; (with_reducible refine (implIsGraph_is (hXa.up hSw.1) hn HG.out).mono ?_); rintro e wD ⟨rfl, hbD⟩; apply And.intro; (with_reducible rfl); (have hUD := Up.then_ hSw.1 hbD; exact ⟨hUD, fun _ _ hb => hUD.cell hb⟩))); (try simp only [Act.put, List.setIfInBounds_toArray, List.set_cons_zero, List.set_cons_succ])))
    intro w1 hS1
    have hU1 : Up wa w1 := hS1.1
    clear hS1 hV0
    go_wp2
    go_ret
    exact ⟨rfl, Up.then_ hU0 hU1⟩
  · obtain ⟨e, he⟩ : ∃ e, e = decide (sortI l = ints (maxCliquesOf N X)) := ⟨_, rfl⟩
    have HE := Lib.hid he.symm
    clear he
    cases e
    · rw [isCliqOrd_ne HE.out]
      go_enter Tryz.func35, Tryz.ntmps35
      go_wp2
      rw [← hwa]
      clear hwa
      have hV0 : Up wa wa.drew := (Up.refl _).drew
      refine wp_region_held_drew (S := (fun w' => Up wa w' ∧ (∀ b o, b < wa.heap.size → w'.cell? ⟨b, o, none⟩ = wa.cell? ⟨b, o, none⟩))) (by kernel_rfl) (by exact ⟨hV0, fun _ _ hb => hV0.cell hb⟩) (fun hHeld => ?_)
      refine wpAnyH_take (i := 0) (v := ?_) rfl (by kernel_rfl) (by kernel_rfl) (by kernel_rfl) (fun _ _ _ h => h) (Or.inl ⟨by rfl, ?_⟩) (by assumption) ?_
      rotate_left
      · (intro w' hSw; go_simp; try with_reducible rfl)
      (try simp only [List.getElem_toArray]); (try simp only [List.getElem_cons_succ]); (try simp only [List.getElem_cons_zero]); (try simp only [Act.put]); (try simp only [List.setIfInBounds_toArray]); (try simp only [List.set_cons_succ]); (try simp only [List.set_cons_zero])
      refine wpAnyH_ready (rs := [1]) (by kernel_rfl) (by simp) ?_
      refine AllReadyH.cons rfl (fun K hK => ?_) AllReadyH.nil
      go_simp
      go_at_call 94
      refine (implIsGraph_is (hXa.up hV0) hn HG.out).mono ?_
      rintro e w10 ⟨rfl, hb10⟩
      have hV1 := Up.then_ hV0 hb10
      go_wp2_with fail
      refine hK.out _ _ (by exact ⟨hV1, fun _ _ hb => hV1.cell hb⟩) (fun hHeld1 => ?_)
      clear hK K
      (try simp only [List.getElem_toArray]); (try simp only [List.getElem_cons_succ]); (try simp only [List.getElem_cons_zero]); (try simp only [Act.put]); (try simp only [List.setIfInBounds_toArray]); (try simp only [List.set_cons_succ]); (try simp only [List.set_cons_zero])
      refine wpAnyH_take (i := 2) (v := ?_) rfl (by kernel_rfl) (by kernel_rfl) (by kernel_rfl) (fun _ _ _ h => h) (Or.inl ⟨by rfl, ?_⟩) (by assumption) ?_
      rotate_left
      · (intro w' hSw; go_simp; try with_reducible rfl)
      (try simp only [List.getElem_toArray]); (try simp only [List.getElem_cons_succ]); (try simp only [List.getElem_cons_zero]); (try simp only [Act.put]); (try simp only [List.setIfInBounds_toArray]); (try simp only [List.set_cons_succ]); (try simp only [List.set_cons_zero])
      refine wpAnyH_take (i := 3) (v := ?_) rfl (by kernel_rfl) (by kernel_rfl) (by kernel_rfl) (fun _ _ _ h => h) (Or.inl ⟨by rfl, ?_⟩) (by assumption) ?_
      rotate_left
      · (intro w' hSw; go_simp; try with_reducible rfl)
      (try simp only [List.getElem_toArray]); (try simp only [List.getElem_cons_succ]); (try simp only [List.getElem_cons_zero]); (try simp only [Act.put]); (try simp only [List.setIfInBounds_toArray]); (try simp only [List.set_cons_succ]); (try simp only [List.set_cons_zero])
      refine wpAnyH_take (i := 5) (v := ?_) rfl (by kernel_rfl) (by kernel_rfl) (by kernel_rfl) (fun _ _ _ h => h) (Or.inl ⟨by rfl, ?_⟩) (by assumption) ?_
      rotate_left
      · (intro w' hSw; go_simp; try with_reducible rfl)
      (try simp only [List.getElem_toArray]); (try simp only [List.getElem_cons_succ]); (try simp only [List.getElem_cons_zero]); (try simp only [Act.put]); (try simp only [List.setIfInBounds_toArray]); (try simp only [List.set_cons_succ]); (try simp only [List.set_cons_zero])
      refine wpAnyH_ready (rs := [4]) (by kernel_rfl) (by simp) ?_
      refine AllReadyH.cons rfl (fun K hK => ?_) AllReadyH.nil
      go_simp
      go_at_call 96
      refine (sorted_any B m d l _ (hLa.up hV1) hm).mono ?_
      rintro e w11 ⟨A9, c9, rfl, hown9, hb11⟩
      have hV2 := Up.then_ hV1 hb11
      go_wp2_with fail
      refine hK.out _ _ (by exact ⟨hV2, fun _ _ hb => hV2.cell hb⟩) (fun hHeld2 => ?_)
      clear hK K
      (try simp only [List.getElem_toArray]); (try simp only [List.getElem_cons_succ]); (try simp only [List.getElem_cons_zero]); (try simp only [Act.put]); (try simp only [List.setIfInBounds_toArray]); (try simp only [List.set_cons_succ]); (try simp only [List.set_cons_zero])
      refine wpAnyH_ready (rs := [6]) (by kernel_rfl) (by simp) ?_
      refine AllReadyH.cons rfl (fun K hK => ?_) AllReadyH.nil
      go_simp
      go_at_call 97
      refine (implCliques_out (hXa.up hV2) hn).mono ?_
      rintro e w12 ⟨A11, c11, rfl, hown11, hb12⟩
      have hV3 := Up.then_ hV2 hb12
      go_wp2_with fail
      refine hK.out _ _ (by exact ⟨hV3, fun _ _ hb => hV3.cell hb⟩) (fun hHeld3 => ?_)
      clear hK K
      (try simp only [List.getElem_toArray]); (try simp only [List.getElem_cons_succ]); (try simp only [List.getElem_cons_zero]); (try simp only [Act.put]); (try simp only [List.setIfInBounds_toArray]); (try simp only [List.set_cons_succ]); (try simp only [List.set_cons_zero])
      refine wpAnyH_ready (rs := [7]) (by kernel_rfl) (by simp) ?_
      refine AllReadyH.cons rfl (fun K hK => ?_) AllReadyH.nil
      go_simp
      go_at_call 95
      refine (slEqual_is (hown9.ri.up hb12) hown11.ri hm2 HE.out).mono ?_
      rintro e w13 ⟨rfl, hb13⟩
      have hV4 := Up.then_ hV3 hb13
      go_wp2_with fail
      refine hK.out _ _ (by exact ⟨hV4, fun _ _ hb => hV4.cell hb⟩) (fun hHeld4 => ?_)
      clear hK K
      (try simp only [List.getElem_toArray]); (try simp only [List.getElem_cons_succ]); (try simp only [List.getElem_cons_zero]); (try simp only [Act.put]); (try simp only [List.setIfInBounds_toArray]); (try simp only [List.set_cons_succ]); (try simp only [List.set_cons_zero])
      refine wpAnyH_take (i := 8) (v := ?_) rfl (by kernel_rfl) (by kernel_rfl) (by kernel_rfl) (fun _ _ _ h => h) (Or.inl ⟨by rfl, ?_⟩) (by assumption) ?_
      rotate_left
      · (intro w' hSw; go_simp; try with_reducible rfl)
      (try simp only [List.getElem_toArray]); (try simp only [List.getElem_cons_succ]); (try simp only [List.getElem_cons_zero]); (try simp only [Act.put]); (try simp only [List.setIfInBounds_toArray]); (try simp only [List.set_cons_succ]); (try simp only [List.set_cons_zero])
      refine wpAnyH_take (i := 9) (v := ?_) rfl (by kernel_rfl) (by kernel_rfl) (by kernel_rfl) (fun _ _ _ h => h) (Or.inl ⟨by rfl, ?_⟩) (by assumption) ?_
      rotate_left
      · (intro w' hSw; go_simp; try with_reducible rfl)
      (try simp only [List.getElem_toArray]); (try simp only [List.getElem_cons_succ]); (try simp only [List.getElem_cons_zero]); (try simp only [Act.put]); (try simp only [List.setIfInBounds_toArray]); (try simp only [List.set_cons_succ]); (try simp only [List.set_cons_zero])
      refine wpAnyH_take (i := 10) (v := undef) rfl (by kernel_rfl) (by kernel_rfl) (by kernel_rfl) (fun _ _ _ h => h) (Or.inr ⟨by rfl, rfl⟩) (by assumption) ?_
      (try simp only [List.getElem_toArray]); (try simp only [List.getElem_cons_succ]); (try simp only [List.getElem_cons_zero]); (try simp only [Act.put]); (try simp only [List.setIfInBounds_toArray]); (try simp only [List.set_cons_succ]); (try simp only [List.set_cons_zero])
      refine wpAnyH_take (i := 11) (v := undef) rfl (by kernel_rfl) (by kernel_rfl) (by kernel_rfl) (fun _ _ _ h => h) (Or.inr ⟨by rfl, rfl⟩) (by assumption) ?_
      (try simp only [List.getElem_toArray]); (try simp only [List.getElem_cons_succ]); (try simp only [List.getElem_cons_zero]); (try simp only [Act.put]); (try simp only [List.setIfInBounds_toArray]); (try simp only [List.set_cons_succ]); (try simp only [List.set_cons_zero])
      refine wpAnyH_take (i := 12) (v := ?_) rfl (by kernel_rfl) (by kernel_rfl) (by kernel_rfl) (fun _ _ _ h => h) (Or.inl ⟨by rfl, ?_⟩) (by assumption) ?_
      rotate_left
      · (intro w' hSw; go_simp; try with_reducible rfl)
      (try simp only [List.getElem_toArray]); (try simp only [List.getElem_cons_succ]); (try simp only [List.getElem_cons_zero]); (try simp only [Act.put]); (try simp only [List.setIfInBounds_toArray]); (try simp only [List.set_cons_succ]); (try simp only [List.set_cons_zero])
      refine wpAnyH_take (i := 13) (v := ?_) rfl (by kernel_rfl) (by kernel_rfl) (by kernel_rfl) (fun _ _ _ h => h) (Or.inl ⟨by rfl, ?_⟩) (by assumption) ?_
      rotate_left
      · (intro w' hSw; go_simp; try with_reducible rfl)
      (try simp only [List.getElem_toArray]); (try simp only [List.getElem_cons_succ]); (try simp only [List.getElem_cons_zero]); (try simp only [Act.put]); (try simp only [List.setIfInBounds_toArray]); (try simp only [List.set_cons_succ]); (try simp only [List.set_cons_zero])
      refine wpAnyH_done (by kernel_rfl) ?_ _
      have hU1 := hV4
      go_wp2
      go_ret
      exact ⟨rfl, Up.then_ hU0 hU1⟩
    · have hnat := sorted_nats HG.out HE.out
      rw [isCliqOrd_yes HG.out HE.out]
      obtain ⟨o, ho⟩ : ∃ o, o = l.map Int.toNat := ⟨_, rfl⟩
      rw [← ho] at hnat ⊢
      have HN := Lib.hid hnat
      obtain ⟨f, hf⟩ : ∃ f, f = fol o := ⟨_, rfl⟩
      have HF := Lib.hid hf.symm
      rw [← hf]
      have hLo : RI wa B m (ints o) := by rw [← hnat.1]; exact hLa
      clear hnat ho hf
      go_enter Tryz.func35, Tryz.ntmps35
      go_wp2
      rw [← hwa]
      clear hwa
      have hV0 : Up wa wa.drew := (Up.refl _).drew
      go_region_held3 (fun w' => Up wa w' ∧ (∀ b o, b < wa.heap.size → w'.cell? ⟨b, o, none⟩ = wa.cell? ⟨b, o, none⟩)) (first | exact (by exact ⟨hV5, fun _ _ hb => hV5.cell hb⟩) | exact (by exact ⟨hV4, fun _ _ hb => hV4.cell hb⟩) | exact (by exact ⟨hV3, fun _ _ hb => hV3.cell hb⟩) | exact (by exact ⟨hV2, fun _ _ hb => hV2.cell hb⟩) | exact (by exact ⟨hV1, fun _ _ hb => hV1.cell hb⟩) | exact (by exact ⟨hV0, fun _ _ hb => hV0.cell hb⟩)) (first | (go_at_call 94; refine (implIsGraph_is (hXa.up hV0) hn HG.out).mono ?_; rintro e w10 ⟨rfl, hb10⟩; have hV1 := Up.then_ hV0 hb10) | (go_at_call 96; refine (sorted_any B m d l _ (hLa.up hV1) hm).mono ?_; rintro e w11 ⟨A9, c9, rfl, hown9, hb11⟩; have hV2 := Up.then_ hV1 hb11) | (go_at_call 97; refine (implCliques_out (hXa.up hV2) hn).mono ?_; rintro e w12 ⟨A11, c11, rfl, hown11, hb12⟩; have hV3 := Up.then_ hV2 hb12) | (go_at_call 95; refine (slEqual_is (hown9.ri.up hb12) hown11.ri hm2 HE.out).mono ?_; rintro e w13 ⟨rfl, hb13⟩; have hV4 := Up.then_ hV3 hb13) | (go_at_call 98; refine (follow_up (hLo.up hV4) HN.out.2 hm2 HF.out).mono ?_; rintro e w14 ⟨rfl, hb14⟩; have hV5 := Up.then_ hV4 hb14))
      have hU1 := hV5
      go_wp2
      go_ret
      exact ⟨rfl, Up.then_ hU0 hU1⟩
set_option maxRecDepth 100000 in
theorem specCliques_out {N : Int} {A : Option Addr} {n c : Nat} {X : List Int} {w : World} (hX : RI w A n X) (hn : n ≤ 9223372036854775807) :
    Calls Tryz.prog 93 #[.agg #[.int .i64 N, .slice A n c]] w fun e w' => ∃ B d, e = .returned (.slice B (maxCliquesOf N X).length d) ∧ OwnI w' w.heap.size B (maxCliquesOf N X).length d (ints (maxCliquesOf N X)) ∧ Below w.heap.size w w' :=
  (specMaximalCliques_any N A n c X w hX hn).mono fun _ _ h => h.out
set_option maxRecDepth 100000 in
theorem l8Same_is {A B : Option Addr} {n m ca cb : Nat} {xs ys : List Int} {w : World} {b : Bool} (hA : RI w A n xs) (hB : RI w B m ys) (hn : n ≤ 9223372036854775807) (hb : decide (xs = ys) = b) :
    Calls Tryz.prog 118 #[.slice A n ca, .slice B m cb] w fun e w' => e = .returned (.bool b) ∧ Below w.heap.size w w' := by
  subst hb; exact l8Same_any A B n m ca cb xs ys w hA hB hn
set_option maxRecDepth 100000 in
theorem consec_up {A : Option Addr} {m c : Nat} {o : List Nat} {w : World} {b : Bool} (hL : RI w A m (ints o)) (ho : ∀ x ∈ o, x < 2 ^ 7) (hm : m ≤ 9223372036854775806) (hb : fol o = b) :
    Calls Tryz.prog 120 #[.slice A m c] w fun e w' => e = .returned (.bool b) ∧ Below w.heap.size w w' :=
  (consec_is hL ho hm hb).mono fun _ _ h => ⟨h.1, h.2 ▸ Below.refl _ _⟩
set_option maxRecDepth 100000 in
set_option maxHeartbeats 2000000 in
theorem specIsCliqueOrder_any (N : Int) (A B : Option Addr) (n c m d : Nat) (X l : List Int) (w : World) (hX : RI w A n X) (hL : RI w B m l) (hn : n ≤ 9223372036854775807) (hm : m ≤ 1048576) :
    Calls Tryz.prog 58 #[.agg #[.int .i64 N, .slice A n c], .slice B m d] w fun e w' => e = .returned (.bool (isCliqOrd N X l)) ∧ Below w.heap.size w w' := by
  have hbk := Blk.new w 26 #[.int .i64 N, .slice A n c]
  have hU0 : Up w (w.alloc (.cells #[.int .i64 N, .slice A n c] 26)) := by go_grown
  have hXa := hX.up hU0
  have hLa := hL.up hU0
  have hya := hbk.two
  have hla := hbk.lt
  have hm2 : m ≤ 9223372036854775807 := by omega
  have hm3 : m ≤ 9223372036854775806 := by omega
  have hbka := hbk
  obtain ⟨wa, hwa⟩ : ∃ wa, wa = w.alloc (.cells #[.int .i64 N, .slice A n c] 26) := ⟨_, rfl⟩
  rw [← hwa] at hU0 hXa hLa hya hla hbka
  obtain ⟨g, hg⟩ : ∃ g, g = isGraph N X := ⟨_, rfl⟩
  have HG := Lib.hid hg.symm
  clear hg
  cases g
  · rw [isCliqOrd_no HG.out]
    go_enter Tryz.func58, Tryz.ntmps58
    go_wp2
    rw [← hwa]
    have hV0 : Up wa wa.drew := (Up.refl _).drew
    refine wp_region_calm (S := (fun w' => Up wa w' ∧ (∀ b o, b < wa.heap.size → w'.cell? ⟨b, o, none⟩ = wa.cell? ⟨b, o, none⟩))) (by kernel_rfl) (by kernel_rfl) (by exact ⟨hV0, fun _ _ hb => hV0.cell hb⟩) ?_
    repeat (first | (refine CalmSeq.cons undef (Calm.off (by rfl)) ?_; (try simp only [Act.put, List.setIfInBounds_toArray, List.set_cons_zero, List.set_cons_succ])) | (refine CalmSeq.cons ?_ (Calm.val (by rfl) ?_) ?_; rotate_left; (intro wC hSw; (try dsimp only at hSw); go_simp; done); (try simp only [Act.put, List.setIfInBounds_toArray, List.set_cons_zero, List.set_cons_succ])) | (refine CalmSeq.cons ?_ (Calm.val (by rfl) ?_) ?_; rotate_left; (intro wC hSw; (try dsimp only at hSw); go_simp; with_reducible rfl); (try simp only [Act.put, List.setIfInBounds_toArray, List.set_cons_zero, List.set_cons_succ])) | ((refine CalmSeq.cons ?_ (Calm.call (f := ?_) (args := ?_) (by rfl) ?_ (fun wC hSw => ?_)) ?_; rotate_left 3; (intro wC; go_simp; (refine ⟨?_, ?_⟩ <;> with_reducible rfl)); (go_at_call 16; (with_reducible refine (specIsGraph_is (hXa.up hSw.1) hn HG.out).mono ?_); rintro e wD ⟨rfl, hbD⟩; apply And.intro; (with_reducible rfl); (have hUD := Up.then_ hSw.1 hbD; exact ⟨hUD, fun _ _ hb => hUD.cell hb⟩))); (try simp only [Act.put, List.setIfInBounds_toArray, List.set_cons_zero, List.set_cons_succ])))
    intro w1 hS1
    have hU1 : Up wa w1 := hS1.1
    clear hS1 hV0
    go_wp2
    go_ret
    exact ⟨rfl, Up.then_ hU0 hU1⟩
  · obtain ⟨e, he⟩ : ∃ e, e = decide (sortI l = ints (maxCliquesOf N X)) := ⟨_, rfl⟩
    have HE := Lib.hid he.symm
    clear he
    cases e
    · rw [isCliqOrd_ne HE.out]
      go_enter Tryz.func58, Tryz.ntmps58
      go_wp2
      rw [← hwa]
      clear hwa
      have hV0 : Up wa wa.drew := (Up.refl _).drew
      refine wp_region_held_drew (S := (fun w' => Up wa w' ∧ (∀ b o, b < wa.heap.size → w'.cell? ⟨b, o, none⟩ = wa.cell? ⟨b, o, none⟩))) (by kernel_rfl) (by exact ⟨hV0, fun _ _ hb => hV0.cell hb⟩) (fun hHeld => ?_)
      refine wpAnyH_take (i := 0) (v := ?_) rfl (by kernel_rfl) (by kernel_rfl) (by kernel_rfl) (fun _ _ _ h => h) (Or.inl ⟨by rfl, ?_⟩) (by assumption) ?_
      rotate_left
      · (intro w' hSw; go_simp; try with_reducible rfl)
      (try simp only [List.getElem_toArray]); (try simp only [List.getElem_cons_succ]); (try simp only [List.getElem_cons_zero]); (try simp only [Act.put]); (try simp only [List.setIfInBounds_toArray]); (try simp only [List.set_cons_succ]); (try simp only [List.set_cons_zero])
      refine wpAnyH_ready (rs := [1]) (by kernel_rfl) (by simp) ?_
      refine AllReadyH.cons rfl (fun K hK => ?_) AllReadyH.nil
      go_simp
      go_at_call 16
      refine (specIsGraph_is (hXa.up hV0) hn HG.out).mono ?_
      rintro e w10 ⟨rfl, hb10⟩
      have hV1 := Up.then_ hV0 hb10
      go_wp2_with fail
      refine hK.out _ _ (by exact ⟨hV1, fun _ _ hb => hV1.cell hb⟩) (fun hHeld1 => ?_)
      clear hK K
      (try simp only [List.getElem_toArray]); (try simp only [List.getElem_cons_succ]); (try simp only [List.getElem_cons_zero]); (try simp only [Act.put]); (try simp only [List.setIfInBounds_toArray]); (try simp only [List.set_cons_succ]); (try simp only [List.set_cons_zero])
      refine wpAnyH_take (i := 2) (v := ?_) rfl (by kernel_rfl) (by kernel_rfl) (by kernel_rfl) (fun _ _ _ h => h) (Or.inl ⟨by rfl, ?_⟩) (by assumption) ?_
      rotate_left
      · (intro w' hSw; go_simp; try with_reducible rfl)
      (try simp only [List.getElem_toArray]); (try simp only [List.getElem_cons_succ]); (try simp only [List.getElem_cons_zero]); (try simp only [Act.put]); (try simp only [List.setIfInBounds_toArray]); (try simp only [List.set_cons_succ]); (try simp only [List.set_cons_zero])
      refine wpAnyH_take (i := 3) (v := ?_) rfl (by kernel_rfl) (by kernel_rfl) (by kernel_rfl) (fun _ _ _ h => h) (Or.inl ⟨by rfl, ?_⟩) (by assumption) ?_
      rotate_left
      · (intro w' hSw; go_simp; try with_reducible rfl)
      (try simp only [List.getElem_toArray]); (try simp only [List.getElem_cons_succ]); (try simp only [List.getElem_cons_zero]); (try simp only [Act.put]); (try simp only [List.setIfInBounds_toArray]); (try simp only [List.set_cons_succ]); (try simp only [List.set_cons_zero])
      refine wpAnyH_take (i := 5) (v := ?_) rfl (by kernel_rfl) (by kernel_rfl) (by kernel_rfl) (fun _ _ _ h => h) (Or.inl ⟨by rfl, ?_⟩) (by assumption) ?_
      rotate_left
      · (intro w' hSw; go_simp; try with_reducible rfl)
      (try simp only [List.getElem_toArray]); (try simp only [List.getElem_cons_succ]); (try simp only [List.getElem_cons_zero]); (try simp only [Act.put]); (try simp only [List.setIfInBounds_toArray]); (try simp only [List.set_cons_succ]); (try simp only [List.set_cons_zero])
      refine wpAnyH_ready (rs := [4]) (by kernel_rfl) (by simp) ?_
      refine AllReadyH.cons rfl (fun K hK => ?_) AllReadyH.nil
      go_simp
      go_at_call 119
      refine (l8Sorted_any B m d l _ (hLa.up hV1) hm).mono ?_
      rintro e w11 ⟨A9, c9, rfl, hown9, hb11⟩
      have hV2 := Up.then_ hV1 hb11
      go_wp2_with fail
      refine hK.out _ _ (by exact ⟨hV2, fun _ _ hb => hV2.cell hb⟩) (fun hHeld2 => ?_)
      clear hK K
      (try simp only [List.getElem_toArray]); (try simp only [List.getElem_cons_succ]); (try simp only [List.getElem_cons_zero]); (try simp only [Act.put]); (try simp only [List.setIfInBounds_toArray]); (try simp only [List.set_cons_succ]); (try simp only [List.set_cons_zero])
      refine wpAnyH_ready (rs := [6]) (by kernel_rfl) (by simp) ?_
      refine AllReadyH.cons rfl (fun K hK => ?_) AllReadyH.nil
      go_simp
      go_at_call 93
      refine (specCliques_out (hXa.up hV2) hn).mono ?_
      rintro e w12 ⟨A11, c11, rfl, hown11, hb12⟩
      have hV3 := Up.then_ hV2 hb12
      go_wp2_with fail
      refine hK.out _ _ (by exact ⟨hV3, fun _ _ hb => hV3.cell hb⟩) (fun hHeld3 => ?_)
      clear hK K
      (try simp only [List.getElem_toArray]); (try simp only [List.getElem_cons_succ]); (try simp only [List.getElem_cons_zero]); (try simp only [Act.put]); (try simp only [List.setIfInBounds_toArray]); (try simp only [List.set_cons_succ]); (try simp only [List.set_cons_zero])
      refine wpAnyH_ready (rs := [7]) (by kernel_rfl) (by simp) ?_
      refine AllReadyH.cons rfl (fun K hK => ?_) AllReadyH.nil
      go_simp
      go_at_call 118
      refine (l8Same_is (hown9.ri.up hb12) hown11.ri hm2 HE.out).mono ?_
      rintro e w13 ⟨rfl, hb13⟩
      have hV4 := Up.then_ hV3 hb13
      go_wp2_with fail
      refine hK.out _ _ (by exact ⟨hV4, fun _ _ hb => hV4.cell hb⟩) (fun hHeld4 => ?_)
      clear hK K
      (try simp only [List.getElem_toArray]); (try simp only [List.getElem_cons_succ]); (try simp only [List.getElem_cons_zero]); (try simp only [Act.put]); (try simp only [List.setIfInBounds_toArray]); (try simp only [List.set_cons_succ]); (try simp only [List.set_cons_zero])
      refine wpAnyH_take (i := 8) (v := ?_) rfl (by kernel_rfl) (by kernel_rfl) (by kernel_rfl) (fun _ _ _ h => h) (Or.inl ⟨by rfl, ?_⟩) (by assumption) ?_
      rotate_left
      · (intro w' hSw; go_simp; try with_reducible rfl)
      (try simp only [List.getElem_toArray]); (try simp only [List.getElem_cons_succ]); (try simp only [List.getElem_cons_zero]); (try simp only [Act.put]); (try simp only [List.setIfInBounds_toArray]); (try simp only [List.set_cons_succ]); (try simp only [List.set_cons_zero])
      refine wpAnyH_take (i := 9) (v := ?_) rfl (by kernel_rfl) (by kernel_rfl) (by kernel_rfl) (fun _ _ _ h => h) (Or.inl ⟨by rfl, ?_⟩) (by assumption) ?_
      rotate_left
      · (intro w' hSw; go_simp; try with_reducible rfl)
      (try simp only [List.getElem_toArray]); (try simp only [List.getElem_cons_succ]); (try simp only [List.getElem_cons_zero]); (try simp only [Act.put]); (try simp only [List.setIfInBounds_toArray]); (try simp only [List.set_cons_succ]); (try simp only [List.set_cons_zero])
      refine wpAnyH_take (i := 10) (v := undef) rfl (by kernel_rfl) (by kernel_rfl) (by kernel_rfl) (fun _ _ _ h => h) (Or.inr ⟨by rfl, rfl⟩) (by assumption) ?_
      (try simp only [List.getElem_toArray]); (try simp only [List.getElem_cons_succ]); (try simp only [List.getElem_cons_zero]); (try simp only [Act.put]); (try simp only [List.setIfInBounds_toArray]); (try simp only [List.set_cons_succ]); (try simp only [List.set_cons_zero])
      refine wpAnyH_take (i := 11) (v := undef) rfl (by kernel_rfl) (by kernel_rfl) (by kernel_rfl) (fun _ _ _ h => h) (Or.inr ⟨by rfl, rfl⟩) (by assumption) ?_
      (try simp only [List.getElem_toArray]); (try simp only [List.getElem_cons_succ]); (try simp only [List.getElem_cons_zero]); (try simp only [Act.put]); (try simp only [List.setIfInBounds_toArray]); (try simp only [List.set_cons_succ]); (try simp only [List.set_cons_zero])
      refine wpAnyH_take (i := 12) (v := ?_) rfl (by kernel_rfl) (by kernel_rfl) (by kernel_rfl) (fun _ _ _ h => h) (Or.inl ⟨by rfl, ?_⟩) (by assumption) ?_
      rotate_left
      · (intro w' hSw; go_simp; try with_reducible rfl)
      (try simp only [List.getElem_toArray]); (try simp only [List.getElem_cons_succ]); (try simp only [List.getElem_cons_zero]); (try simp only [Act.put]); (try simp only [List.setIfInBounds_toArray]); (try simp only [List.set_cons_succ]); (try simp only [List.set_cons_zero])
      refine wpAnyH_take (i := 13) (v := ?_) rfl (by kernel_rfl) (by kernel_rfl) (by kernel_rfl) (fun _ _ _ h => h) (Or.inl ⟨by rfl, ?_⟩) (by assumption) ?_
      rotate_left
      · (intro w' hSw; go_simp; try with_reducible rfl)
      (try simp only [List.getElem_toArray]); (try simp only [List.getElem_cons_succ]); (try simp only [List.getElem_cons_zero]); (try simp only [Act.put]); (try simp only [List.setIfInBounds_toArray]); (try simp only [List.set_cons_succ]); (try simp only [List.set_cons_zero])
      refine wpAnyH_done (by kernel_rfl) ?_ _
      have hU1 := hV4
      go_wp2
      go_ret
      exact ⟨rfl, Up.then_ hU0 hU1⟩
    · have hnat := sorted_nats HG.out HE.out
      rw [isCliqOrd_yes HG.out HE.out]
      obtain ⟨o, ho⟩ : ∃ o, o = l.map Int.toNat := ⟨_, rfl⟩
      rw [← ho] at hnat ⊢
      have HN := Lib.hid hnat
      obtain ⟨f, hf⟩ : ∃ f, f = fol o := ⟨_, rfl⟩
      have HF := Lib.hid hf.symm
      rw [← hf]
      have hLo : RI wa B m (ints o) := by rw [← hnat.1]; exact hLa
      clear hnat ho hf
      go_enter Tryz.func58, Tryz.ntmps58
      go_wp2
      rw [← hwa]
      clear hwa
      have hV0 : Up wa wa.drew := (Up.refl _).drew
      go_region_held3 (fun w' => Up wa w' ∧ (∀ b o, b < wa.heap.size → w'.cell? ⟨b, o, none⟩ = wa.cell? ⟨b, o, none⟩)) (first | exact (by exact ⟨hV5, fun _ _ hb => hV5.cell hb⟩) | exact (by exact ⟨hV4, fun _ _ hb => hV4.cell hb⟩) | exact (by exact ⟨hV3, fun _ _ hb => hV3.cell hb⟩) | exact (by exact ⟨hV2, fun _ _ hb => hV2.cell hb⟩) | exact (by exact ⟨hV1, fun _ _ hb => hV1.cell hb⟩) | exact (by exact ⟨hV0, fun _ _ hb => hV0.cell hb⟩)) (first | (go_at_call 16; refine (specIsGraph_is (hXa.up hV0) hn HG.out).mono ?_; rintro e w10 ⟨rfl, hb10⟩; have hV1 := Up.then_ hV0 hb10) | (go_at_call 119; refine (l8Sorted_any B m d l _ (hLa.up hV1) hm).mono ?_; rintro e w11 ⟨A9, c9, rfl, hown9, hb11⟩; have hV2 := Up.then_ hV1 hb11) | (go_at_call 93; refine (specCliques_out (hXa.up hV2) hn).mono ?_; rintro e w12 ⟨A11, c11, rfl, hown11, hb12⟩; have hV3 := Up.then_ hV2 hb12) | (go_at_call 118; refine (l8Same_is (hown9.ri.up hb12) hown11.ri hm2 HE.out).mono ?_; rintro e w13 ⟨rfl, hb13⟩; have hV4 := Up.then_ hV3 hb13) | (go_at_call 120; refine (consec_up (hLo.up hV4) HN.out.2 hm3 HF.out).mono ?_; rintro e w14 ⟨rfl, hb14⟩; have hV5 := Up.then_ hV4 hb14))
      have hU1 := hV5
      go_wp2
      go_ret
      exact ⟨rfl, Up.then_ hU0 hU1⟩
end Go.Proofs.YthncdjcmlpiebaaGreat
