/- The reference's sorting. -/
import Derived.Test.YtnaoomchekhcgaaW8s
import Derived.Test.YtnaoomchekhcgaaW10d
import Derived.Test.YtnaoomchekhcgaaW6
import Derived.Test.YtnaoomchekhcgaaCalm
namespace Go.Proofs.Ytnaoomchekhcgaa
open Go.RowKit
theorem RI.dropS {w : World} {g n k : Nat} {xs : List Int} (h : RI w (some ⟨g, 0, none⟩) n xs) (hk : k ≤ n) : RI w (some ⟨g, k, none⟩) (n - k) (xs.drop k) := by
  refine ⟨by rw [List.length_drop, h.1], fun hn => ⟨_, rfl, fun j hj => ?_⟩⟩
  obtain ⟨ad, e, _, hc⟩ := h.at_ (k := k + j) (by omega)
  injection e with e
  subst e
  have e1 : (⟨g, k, none⟩ : Addr).add j = ⟨g, k + j, none⟩ := by unfold Addr.add; split <;> simp_all
  rw [add_0_] at hc
  rw [e1, hc]
  simp [List.getD]
set_option maxRecDepth 100000 in
set_option maxHeartbeats 4000000 in
theorem l8Sorted_any (A : Option Addr) (n c : Nat) (xs : List Int) (w : World) (hA : RI w A n xs) (hn : n ≤ 1048576) :
    Calls Try.prog 59 #[.slice A n c] w fun e w' => ∃ A1 c1, e = .returned (.slice A1 n c1) ∧ OwnI w' w.heap.size A1 n c1 (sortI xs) ∧ Below w.heap.size w w' := by
  have hown0 := OwnI.made (base := w.heap.size) w (Nat.le_refl _)
  have HALL := Lib.hid (show insK xs n = sortI xs by rw [← hA.1]; exact insK_all xs)
  have HK := Lib.hid (show ∀ j, insK xs (j + 1) = insI (insK xs j) (xs.getD j 0) from fun _ => rfl)
  go_enter Try.func59, Try.ntmps59
  go_wp2_with fail
  go_loopw [3, 4] (fun o i wr => ∃ (j g c3 : Nat), j ≤ n ∧ i = .int .i64 j ∧ o = .slice (some ⟨g, 0, none⟩) j c3 ∧ OwnI wr w.heap.size (some ⟨g, 0, none⟩) j c3 (insK xs j) ∧ Below w.heap.size w wr) (fun _ i _ => n - (intOf i).toNat)
  case atStart => exact ⟨0, w.heap.size, 0, Nat.zero_le _, rfl, rfl, hown0, by go_grown⟩
  case round =>
    clear hown0
    obtain ⟨j, g, c3, hj, rfl, rfl, hown, hb⟩ := hrel
    obtain ⟨wo, rfl⟩ : ∃ wo : World, wo = wr := ⟨_, rfl⟩
    by_cases hjt : j < n
    · obtain ⟨a, rfl, habs, hca⟩ := (hA.up hb).at_ hjt
      have HKj := Lib.hid (HK.out j)
      have hol : (insK xs j).length = j := insK_len xs j
      obtain ⟨x, hx⟩ : ∃ x, x = xs.getD j 0 := ⟨_, rfl⟩
      obtain ⟨out, hout⟩ : ∃ out, out = insK xs j := ⟨_, rfl⟩
      rw [← hx] at hca HKj
      rw [← hout] at hown HKj hol
      clear hx hout
      have HOL := Lib.hid hol
      have HP := Lib.hid (show posI out x = posK out x j by rw [posI, hol])
      have HPK := Lib.hid (show ∀ k, posK out x (k + 1) = if x < out.getD k 0 then posK out x k else k + 1 from fun _ => rfl)
      clear hol
      go_wp2_with fail
      go_loopw [5] (fun i wr => ∃ k : Nat, k ≤ j ∧ i = .int .i64 k ∧ Up wo wr ∧ Hid (posK out x k = posI out x)) (fun i _ => (intOf i).toNat)
      case atStart => exact ⟨j, Nat.le_refl _, rfl, Up.refl _, HP.out.symm⟩
      case round =>
        obtain ⟨k, hk, rfl, hb2, hpk⟩ := hrel
        obtain ⟨w2, rfl⟩ : ∃ w2 : World, w2 = wr := ⟨_, rfl⟩
        have hown2 := hown.up hb2
        have hca2 := (hb2.cell (p := a.add j) (by rw [block_of_add]; exact habs)).trans hca
        by_cases hk0 : k = 0
        · have HN := Lib.hid (show posI out x = k by rw [← hpk.out, hk0]; rfl)
          have hk1 : ¬ 0 < k := by omega
          have hal : a.block < w2.heap.size := Nat.lt_of_lt_of_le habs hb2.size
          clear hk0
          go_wp2
          have hV0 : Up w2 w2.drew := (Up.refl _).drew
          refine wp_region_calm (S := (fun w' => Up w2 w' ∧ (∀ b o, b < w2.heap.size → w'.cell? ⟨b, o, none⟩ = w2.cell? ⟨b, o, none⟩))) (by kernel_rfl) (by kernel_rfl) (by exact ⟨hV0, fun _ _ hb => hV0.cell hb⟩) ?_
          repeat (first | (refine CalmSeq.cons undef (Calm.off (by rfl)) ?_; (try simp only [Act.put, List.setIfInBounds_toArray, List.set_cons_zero, List.set_cons_succ])) | (refine CalmSeq.cons ?_ (Calm.val (by rfl) ?_) ?_; rotate_left; (intro wC hSw; (try dsimp only at hSw); go_simp; done); (try simp only [Act.put, List.setIfInBounds_toArray, List.set_cons_zero, List.set_cons_succ])) | (refine CalmSeq.cons ?_ (Calm.val (by rfl) ?_) ?_; rotate_left; (intro wC hSw; (try dsimp only at hSw); go_simp; with_reducible rfl); (try simp only [Act.put, List.setIfInBounds_toArray, List.set_cons_zero, List.set_cons_succ])))
          intro w3 hS3
          have hU3 : Up w2 w3 := hS3.1
          clear hS3 hV0
          go_wp2_with fail
          have hca3 := (hU3.cell (p := a.add j) (by rw [block_of_add]; exact hal)).trans hca2
          have hal3 : a.block < w3.heap.size := Nat.lt_of_lt_of_le hal hU3.size
          have hown3 := hown2.up hU3
          have hri3 := hown3.ri
          have hT := hri3.take hk
          have hS := hri3.dropS hk
          have hgl3 : g < w3.heap.size := (hown3.block g rfl).2
          have hcap := hown3.cap
          have HSum := Lib.hid (show k + 1 + (j - k) = j + 1 by omega)
          have hkb : k ≤ 1048576 := by omega
          have hkb1 : k + 1 ≤ 1048576 := by omega
          have hkb2 : k + 1 + (j - k) ≤ 1048576 := by omega
          have hE := OwnI.made (base := w3.heap.size) w3 (Nat.le_refl _)
          have hcA : ∀ o, (w3.alloc o).cell? (a.add j) = some (.int .i64 x) := fun o => (World.cell?_alloc_lt w3 o _ (by rw [block_of_add]; exact hal3)).trans hca3
          have hE2 := (hE.alloc (.cells #[.int .i64 x] 3)).drew
          have hE3 : OwnI ((w3.alloc (.cells #[.int .i64 x] 3)).alloc (.cells #[] 3)).drew w3.heap.size (some ⟨w3.heap.size + 1, 0, none⟩) 0 0 [] := (OwnI.made_at (by simp) (by omega)).drew
          have hX2 : Blk ((w3.alloc (.cells #[] 3)).alloc (.cells #[.int .i64 x] 3)).drew (w3.heap.size + 1) 3 #[.int .i64 x] := (Blk.new_at (by simp)).drew
          have hX3 : Blk ((w3.alloc (.cells #[.int .i64 x] 3)).alloc (.cells #[] 3)).drew w3.heap.size 3 #[.int .i64 x] := ((Blk.new w3 3 _).alloc _).drew
          have hD1 := (hT.alloc (.cells #[] 3)).drew
          have hD2 := ((hT.alloc (.cells #[] 3)).alloc (.cells #[.int .i64 x] 3)).drew
          have hD3 := ((hT.alloc (.cells #[.int .i64 x] 3)).alloc (.cells #[] 3)).drew
          replace hE := hE.drew
          have hkc : k ≤ c3 := by omega
          obtain ⟨z, hif, hS⟩ : ∃ z, (if c3 = k then some (⟨g, 0, none⟩ : Addr) else some ⟨g, k, none⟩) = some ⟨g, z, none⟩ ∧ RI w3 (some ⟨g, z, none⟩) (j - k) (out.drop k) := by
            by_cases e : c3 = k
            · refine ⟨0, if_pos e, ?_⟩
              have hjk : j = k := by omega
              exact ⟨by rw [List.length_drop, HOL.out], fun hn => absurd hn (by omega)⟩
            · exact ⟨k, if_neg e, hS⟩
          go_region_law (first
              | (refine step_append_new rfl (.tmp 31) (.tmp 34) rfl rfl hE rfl hD1 hkb (by simp) ?_; intro A4 c4 w4 hown4 hb4 hg4; have hX4' := (Blk.new w4 3 #[.int .i64 x]).ri (xs := [x]) rfl; have hO4 := hown4.alloc (.cells #[.int .i64 x] 3); have hU4 : Up w3 w4 := Below.trans (by go_grown) hb4; have hc4 := (hU4.cell (p := a.add j) (by rw [block_of_add]; exact hal3)).trans hca3)
              | (refine step_append_new rfl (.tmp 31) (.tmp 34) rfl rfl hE2 rfl hD2 hkb (by simp; omega) ?_; intro A4 c4 w4 hown4 hb4 hg4; have hX4' := (hX2.grown hg4 (by simp [Value.ownBlock])).ri (xs := [x]) rfl; have hO4 := hown4; have hU4 : Up w3 w4 := Below.trans (by go_grown) hb4; have hc4 := (hU4.cell (p := a.add j) (by rw [block_of_add]; exact hal3)).trans hca3)
              | (refine step_append_new rfl (.tmp 31) (.tmp 34) rfl rfl hE3 rfl hD3 hkb (by simp; omega) ?_; intro A4 c4 w4 hown4 hb4 hg4; have hX4' := (hX3.grown hg4 (by simp [Value.ownBlock])).ri (xs := [x]) rfl; have hO4 := hown4; have hU4 : Up w3 w4 := Below.trans (by go_grown) hb4; have hc4 := (hU4.cell (p := a.add j) (by rw [block_of_add]; exact hal3)).trans hca3)
              | (refine step_append_own rfl (.tmp 35) (.tmp 40) rfl rfl hO4 rfl hX4' hkb1 (by have := hU4.size; first | exact this | (simp; omega)) ?_; intro A5 c5 w5 hown5 hb5 hg5; have hU5 : Up w3 w5 := (by first | exact hU4.trans hb5 | exact (hU4.alloc hU4.size _).trans hb5); have hS5 := hS.up hU5)
              | (refine step_append_own rfl (.tmp 41) (.tmp 44) rfl rfl hown5 rfl hS5 hkb2 hU5.size ?_; intro A6 c6 w6 hown6 hb6 hg6; have hU6 : Up w3 w6 := hU5.trans hb6))
          all_goals
            have hx6 : OwnI w6 w3.heap.size A6 (j + 1) c6 (insK xs (j + 1)) := hown6.cast HSum.out (by rw [HKj.out, insI, HN.out])
            obtain ⟨g6, rfl⟩ := hx6.form (Nat.succ_pos j)
            have hw6 : Below w.heap.size w w6 := Up.then_ hb (Up.then_ hb2 (Up.then_ hU3 hU6))
            have hbs3 : w.heap.size ≤ w3.heap.size := (Up.then_ hb (Up.then_ hb2 hU3)).size
            clear hE hE2 hE3 hX2 hX3 hD1 hD2 hD3 hT hS hS5 hown6 hg6 hb6 hown5 hg5 hb5 hX4' hO4 hown4 hb4 hg4 hc4 hcA hca3 hif hri3
            go_wp2_with fail
            go_roundw
            case rel => exact ⟨j + 1, g6, c6, by omega, by go_num, by rw [HSum.out], hx6.more hbs3, hw6⟩
            case measure => simp [intOf]; omega
        · obtain ⟨p, hp⟩ : ∃ p, p = k - 1 := ⟨_, rfl⟩
          have hpj : p < j := by omega
          obtain ⟨ad, e, _, hcy⟩ := hown2.ri.at_ hpj
          injection e with e
          subst e
          rw [add_0_] at hcy
          have hgl : g < w2.heap.size := (hown2.block g rfl).2
          have hal : a.block < w2.heap.size := Nat.lt_of_lt_of_le habs hb2.size
          have hk1 : 0 < k := by omega
          obtain ⟨y, hy⟩ : ∃ y, y = out.getD p 0 := ⟨_, rfl⟩
          rw [← hy] at hcy
          have hstep := Lib.hid (show posK out x k = if x < y then posK out x p else k by
            have := HPK.out p
            rw [show p + 1 = k by omega, ← hy] at this
            exact this)
          have hwi : IntKind.i64.wrap ((k : Int) - 1) = (p : Int) := by
            have : (k : Int) - 1 = (p : Int) := by omega
            rw [this, IntWalk.i64_left]; exact IntWalk.wrap64_in _ ⟨by omega, by omega⟩
          have HPk := Lib.hid (show k = p + 1 by omega)
          have hwp : wrap64 ((k : Int) - 1) = (p : Int) := by rw [← IntWalk.i64_left]; exact hwi
          clear hy hp hk0
          by_cases hxy : x < y
          · have d1 : decide (x < y) = true := decide_eq_true hxy
            have HN := Lib.hid (show posK out x p = posI out x by rw [← hpk.out, hstep.out, if_pos hxy])
            go_wp2
            have hV0 : Up w2 w2.drew := (Up.refl _).drew
            refine wp_region_calm (S := (fun w' => Up w2 w' ∧ (∀ b o, b < w2.heap.size → w'.cell? ⟨b, o, none⟩ = w2.cell? ⟨b, o, none⟩) ∧ w'.cell? (⟨g, p, none⟩) = some (.int .i64 y) ∧ w'.cell? (a.add j) = some (.int .i64 x))) (by kernel_rfl) (by kernel_rfl) (by exact ⟨hV0, fun _ _ hb => hV0.cell hb, (hV0.cell (by first | assumption | (rw [block_of_add]; assumption))).trans (by assumption), (hV0.cell (by first | assumption | (rw [block_of_add]; assumption))).trans (by assumption)⟩) ?_
            repeat (first | (refine CalmSeq.cons undef (Calm.off (by rfl)) ?_; (try simp only [Act.put, List.setIfInBounds_toArray, List.set_cons_zero, List.set_cons_succ])) | (refine CalmSeq.cons ?_ (Calm.val (by rfl) ?_) ?_; rotate_left; (intro wC hSw; (try dsimp only at hSw); go_simp; done); (try simp only [Act.put, List.setIfInBounds_toArray, List.set_cons_zero, List.set_cons_succ])) | (refine CalmSeq.cons ?_ (Calm.val (by rfl) ?_) ?_; rotate_left; (intro wC hSw; (try dsimp only at hSw); go_simp; with_reducible rfl); (try simp only [Act.put, List.setIfInBounds_toArray, List.set_cons_zero, List.set_cons_succ])))
            intro w3 hS3
            have hU3 : Up w2 w3 := hS3.1
            clear hS3 hV0
            go_wp2
            go_roundw
            case rel => exact ⟨p, Nat.le_of_lt hpj, rfl, Up.then_ hb2 hU3, HN.out⟩
            case measure => have := HPk.out; clear hwi hwp; simp [intOf]; omega
          · have d1 : decide (x < y) = false := decide_eq_false hxy
            have HN := Lib.hid (show posI out x = k by rw [← hpk.out, hstep.out, if_neg hxy])
            go_wp2
            have hV0 : Up w2 w2.drew := (Up.refl _).drew
            refine wp_region_calm (S := (fun w' => Up w2 w' ∧ (∀ b o, b < w2.heap.size → w'.cell? ⟨b, o, none⟩ = w2.cell? ⟨b, o, none⟩) ∧ w'.cell? (⟨g, p, none⟩) = some (.int .i64 y) ∧ w'.cell? (a.add j) = some (.int .i64 x))) (by kernel_rfl) (by kernel_rfl) (by exact ⟨hV0, fun _ _ hb => hV0.cell hb, (hV0.cell (by first | assumption | (rw [block_of_add]; assumption))).trans (by assumption), (hV0.cell (by first | assumption | (rw [block_of_add]; assumption))).trans (by assumption)⟩) ?_
            repeat (first | (refine CalmSeq.cons undef (Calm.off (by rfl)) ?_; (try simp only [Act.put, List.setIfInBounds_toArray, List.set_cons_zero, List.set_cons_succ])) | (refine CalmSeq.cons ?_ (Calm.val (by rfl) ?_) ?_; rotate_left; (intro wC hSw; (try dsimp only at hSw); go_simp; done); (try simp only [Act.put, List.setIfInBounds_toArray, List.set_cons_zero, List.set_cons_succ])) | (refine CalmSeq.cons ?_ (Calm.val (by rfl) ?_) ?_; rotate_left; (intro wC hSw; (try dsimp only at hSw); go_simp; with_reducible rfl); (try simp only [Act.put, List.setIfInBounds_toArray, List.set_cons_zero, List.set_cons_succ])))
            intro w3 hS3
            have hU3 : Up w2 w3 := hS3.1
            clear hS3 hV0
            go_wp2_with fail
            have hca3 := (hU3.cell (p := a.add j) (by rw [block_of_add]; exact hal)).trans hca2
            have hal3 : a.block < w3.heap.size := Nat.lt_of_lt_of_le hal hU3.size
            have hown3 := hown2.up hU3
            have hri3 := hown3.ri
            have hT := hri3.take hk
            have hS := hri3.dropS hk
            have hgl3 : g < w3.heap.size := (hown3.block g rfl).2
            have hcap := hown3.cap
            have HSum := Lib.hid (show k + 1 + (j - k) = j + 1 by omega)
            have hkb : k ≤ 1048576 := by omega
            have hkb1 : k + 1 ≤ 1048576 := by omega
            have hkb2 : k + 1 + (j - k) ≤ 1048576 := by omega
            have hE := OwnI.made (base := w3.heap.size) w3 (Nat.le_refl _)
            have hcA : ∀ o, (w3.alloc o).cell? (a.add j) = some (.int .i64 x) := fun o => (World.cell?_alloc_lt w3 o _ (by rw [block_of_add]; exact hal3)).trans hca3
            have hE2 := (hE.alloc (.cells #[.int .i64 x] 3)).drew
            have hE3 : OwnI ((w3.alloc (.cells #[.int .i64 x] 3)).alloc (.cells #[] 3)).drew w3.heap.size (some ⟨w3.heap.size + 1, 0, none⟩) 0 0 [] := (OwnI.made_at (by simp) (by omega)).drew
            have hX2 : Blk ((w3.alloc (.cells #[] 3)).alloc (.cells #[.int .i64 x] 3)).drew (w3.heap.size + 1) 3 #[.int .i64 x] := (Blk.new_at (by simp)).drew
            have hX3 : Blk ((w3.alloc (.cells #[.int .i64 x] 3)).alloc (.cells #[] 3)).drew w3.heap.size 3 #[.int .i64 x] := ((Blk.new w3 3 _).alloc _).drew
            have hD1 := (hT.alloc (.cells #[] 3)).drew
            have hD2 := ((hT.alloc (.cells #[] 3)).alloc (.cells #[.int .i64 x] 3)).drew
            have hD3 := ((hT.alloc (.cells #[.int .i64 x] 3)).alloc (.cells #[] 3)).drew
            replace hE := hE.drew
            have hkc : k ≤ c3 := by omega
            obtain ⟨z, hif, hS⟩ : ∃ z, (if c3 = k then some (⟨g, 0, none⟩ : Addr) else some ⟨g, k, none⟩) = some ⟨g, z, none⟩ ∧ RI w3 (some ⟨g, z, none⟩) (j - k) (out.drop k) := by
              by_cases e : c3 = k
              · refine ⟨0, if_pos e, ?_⟩
                have hjk : j = k := by omega
                exact ⟨by rw [List.length_drop, HOL.out], fun hn => absurd hn (by omega)⟩
              · exact ⟨k, if_neg e, hS⟩
            go_region_law (first
                | (refine step_append_new rfl (.tmp 31) (.tmp 34) rfl rfl hE rfl hD1 hkb (by simp) ?_; intro A4 c4 w4 hown4 hb4 hg4; have hX4' := (Blk.new w4 3 #[.int .i64 x]).ri (xs := [x]) rfl; have hO4 := hown4.alloc (.cells #[.int .i64 x] 3); have hU4 : Up w3 w4 := Below.trans (by go_grown) hb4; have hc4 := (hU4.cell (p := a.add j) (by rw [block_of_add]; exact hal3)).trans hca3)
                | (refine step_append_new rfl (.tmp 31) (.tmp 34) rfl rfl hE2 rfl hD2 hkb (by simp; omega) ?_; intro A4 c4 w4 hown4 hb4 hg4; have hX4' := (hX2.grown hg4 (by simp [Value.ownBlock])).ri (xs := [x]) rfl; have hO4 := hown4; have hU4 : Up w3 w4 := Below.trans (by go_grown) hb4; have hc4 := (hU4.cell (p := a.add j) (by rw [block_of_add]; exact hal3)).trans hca3)
                | (refine step_append_new rfl (.tmp 31) (.tmp 34) rfl rfl hE3 rfl hD3 hkb (by simp; omega) ?_; intro A4 c4 w4 hown4 hb4 hg4; have hX4' := (hX3.grown hg4 (by simp [Value.ownBlock])).ri (xs := [x]) rfl; have hO4 := hown4; have hU4 : Up w3 w4 := Below.trans (by go_grown) hb4; have hc4 := (hU4.cell (p := a.add j) (by rw [block_of_add]; exact hal3)).trans hca3)
                | (refine step_append_own rfl (.tmp 35) (.tmp 40) rfl rfl hO4 rfl hX4' hkb1 (by have := hU4.size; first | exact this | (simp; omega)) ?_; intro A5 c5 w5 hown5 hb5 hg5; have hU5 : Up w3 w5 := (by first | exact hU4.trans hb5 | exact (hU4.alloc hU4.size _).trans hb5); have hS5 := hS.up hU5)
                | (refine step_append_own rfl (.tmp 41) (.tmp 44) rfl rfl hown5 rfl hS5 hkb2 hU5.size ?_; intro A6 c6 w6 hown6 hb6 hg6; have hU6 : Up w3 w6 := hU5.trans hb6))
            all_goals
              have hx6 : OwnI w6 w3.heap.size A6 (j + 1) c6 (insK xs (j + 1)) := hown6.cast HSum.out (by rw [HKj.out, insI, HN.out])
              obtain ⟨g6, rfl⟩ := hx6.form (Nat.succ_pos j)
              have hw6 : Below w.heap.size w w6 := Up.then_ hb (Up.then_ hb2 (Up.then_ hU3 hU6))
              have hbs3 : w.heap.size ≤ w3.heap.size := (Up.then_ hb (Up.then_ hb2 hU3)).size
              clear hE hE2 hE3 hX2 hX3 hD1 hD2 hD3 hT hS hS5 hown6 hg6 hb6 hown5 hg5 hb5 hX4' hO4 hown4 hb4 hg4 hc4 hcA hca3 hif hri3
              go_wp2_with fail
              go_roundw
              case rel => exact ⟨j + 1, g6, c6, by omega, by go_num, by rw [HSum.out], hx6.more hbs3, hw6⟩
              case measure => simp [intOf]; omega
    · obtain rfl : j = n := by omega
      go_wp2
      go_ret
      exact ⟨_, c3, rfl, by rw [← HALL.out]; exact hown, hb⟩
end Go.Proofs.Ytnaoomchekhcgaa
