/- Walks of chapter 8: IsCliqueTree, the reference's. The great law of clique trees: what its callees' answers have to do with each other. No program in sight. -/
import Derived.Test.YthncdjcmlpiebaaGreatDoorQc12
import Derived.Test.YthncdjcmlpiebaaGreatDoorQc13
import Derived.Test.YthncdjcmlpiebaaGreatDoorQc15
import Derived.Test.YthncdjcmlpiebaaGreatDoorQc16
import Derived.Test.YthncdjcmlpiebaaGreatDoorQc17
namespace Go.Proofs.YthncdjcmlpiebaaGreatDoor
open Go.RowKit
set_option maxRecDepth 100000 in
theorem l8Joined_is {A B : Option Addr} {ca cb : Nat} {b : List Nat} {R : List Int} {w : World} {f : Bool} (hT : isTree (ints b) R = true) (hb128 : ∀ j, nb b j < 128) (hb20 : b.length ≤ 20) (hL : RI w A b.length (ints b)) (hR : RI w B b.length R) (hf : joinAll b R 7 = f) :
    Calls Tryz.prog 104 #[.agg #[.slice A b.length ca, .slice B b.length cb]] w fun e w' => e = .returned (.bool f) ∧ Below w.heap.size w w' := by
  subst hf; exact l8Joined_any A B ca cb b R w hT hb128 hb20 hL hR
set_option maxRecDepth 100000 in
set_option maxHeartbeats 4000000 in
theorem specIsCliqueTree_any (N : Int) (A B C : Option Addr) (n c m m' ca cb : Nat) (X L R : List Int) (w : World) (hX : RI w A n X) (hL : RI w B m L) (hR : RI w C m' R) (hn : n ≤ 9223372036854775807) (hm : m ≤ 1048576) (hm' : m' ≤ 1048576) :
    Calls Tryz.prog 50 #[.agg #[.int .i64 N, .slice A n c], .agg #[.slice B m ca, .slice C m' cb]] w fun e w' => e = .returned (.bool (isCliqTree N X L R)) ∧ Below w.heap.size w w' := by
  have hbk := (Blk.new w 29 #[.int .i64 N, .slice A n c]).alloc (.cells #[.slice B m ca, .slice C m' cb] 49)
  have hbt : Blk ((w.alloc (.cells #[.int .i64 N, .slice A n c] 29)).alloc (.cells #[.slice B m ca, .slice C m' cb] 49)) (w.heap.size + 1) 49 #[.slice B m ca, .slice C m' cb] := Blk.new_at (by simp)
  have hU0 : Up w ((w.alloc (.cells #[.int .i64 N, .slice A n c] 29)).alloc (.cells #[.slice B m ca, .slice C m' cb] 49)) := by go_grown
  have hm2 : m ≤ 9223372036854775807 := by omega
  obtain ⟨wa, hwa⟩ : ∃ wa, wa = (w.alloc (.cells #[.int .i64 N, .slice A n c] 29)).alloc (.cells #[.slice B m ca, .slice C m' cb] 49) := ⟨_, rfl⟩
  rw [← hwa] at hU0 hbk hbt
  have hXa := hX.up hU0
  have hLa := hL.up hU0
  have hRa := hR.up hU0
  have hya := hbk.two
  have hla := hbk.lt
  have hyt := hbt.two
  have hlt := hbt.lt
  obtain ⟨g, hg⟩ : ∃ g, g = isGraph N X := ⟨_, rfl⟩
  have HG := Lib.hid hg.symm
  clear hg
  cases g
  · rw [isCliqTree_no HG.out]
    go_enter Tryz.func50, Tryz.ntmps50
    go_wp2
    rw [← hwa]
    clear hwa
    have hV0 : Up wa wa.drew := (Up.refl _).drew
    refine wp_region_calm (S := (fun w' => Up wa w' ∧ (∀ b o, b < wa.heap.size → w'.cell? ⟨b, o, none⟩ = wa.cell? ⟨b, o, none⟩))) (by kernel_rfl) (by kernel_rfl) (by exact ⟨hV0, fun _ _ hb => hV0.cell hb⟩) ?_
    repeat (first | (refine CalmSeq.cons undef (Calm.off (by rfl)) ?_; (try simp only [Act.put, List.setIfInBounds_toArray, List.set_cons_zero, List.set_cons_succ])) | (refine CalmSeq.cons ?_ (Calm.val (by rfl) ?_) ?_; rotate_left; (intro wC hSw; (try dsimp only at hSw); go_simp; done); (try simp only [Act.put, List.setIfInBounds_toArray, List.set_cons_zero, List.set_cons_succ])) | (refine CalmSeq.cons ?_ (Calm.val (by rfl) ?_) ?_; rotate_left; (intro wC hSw; (try dsimp only at hSw); go_simp; with_reducible rfl); (try simp only [Act.put, List.setIfInBounds_toArray, List.set_cons_zero, List.set_cons_succ])) | ((refine CalmSeq.cons ?_ (Calm.call (f := ?_) (args := ?_) (by rfl) ?_ (fun wC hSw => ?_)) ?_; rotate_left 3; (intro wC; go_simp; (refine ⟨?_, ?_⟩ <;> with_reducible rfl)); (go_at_call 71; (with_reducible refine (specIsGraph_is (hXa.up hSw.1) hn HG.out).mono ?_); rintro e wD ⟨rfl, hbD⟩; apply And.intro; (with_reducible rfl); (have hUD := Up.then_ hSw.1 hbD; exact ⟨hUD, fun _ _ hb => hUD.cell hb⟩))); (try simp only [Act.put, List.setIfInBounds_toArray, List.set_cons_zero, List.set_cons_succ])))
    intro w1 hS1
    have hU1 : Up wa w1 := hS1.1
    clear hS1 hV0
    go_wp2
    go_ret
    exact ⟨rfl, Up.then_ hU0 hU1⟩
  · rcases isTree_cases L R with ht | ⟨ht, b, rfl, hb128, hb1, hb20, hRl⟩
    · rw [isCliqTree_not ht]
      have HT := Lib.hid ht
      clear ht
      go_enter Tryz.func50, Tryz.ntmps50
      go_wp2
      rw [← hwa]
      clear hwa
      have hV0 : Up wa wa.drew := (Up.refl _).drew
      refine wp_region_calm (S := (fun w' => Up wa w' ∧ (∀ b o, b < wa.heap.size → w'.cell? ⟨b, o, none⟩ = wa.cell? ⟨b, o, none⟩))) (by kernel_rfl) (by kernel_rfl) (by exact ⟨hV0, fun _ _ hb => hV0.cell hb⟩) ?_
      repeat (first | (refine CalmSeq.cons undef (Calm.off (by rfl)) ?_; (try simp only [Act.put, List.setIfInBounds_toArray, List.set_cons_zero, List.set_cons_succ])) | (refine CalmSeq.cons ?_ (Calm.val (by rfl) ?_) ?_; rotate_left; (intro wC hSw; (try dsimp only at hSw); go_simp; done); (try simp only [Act.put, List.setIfInBounds_toArray, List.set_cons_zero, List.set_cons_succ])) | (refine CalmSeq.cons ?_ (Calm.val (by rfl) ?_) ?_; rotate_left; (intro wC hSw; (try dsimp only at hSw); go_simp; with_reducible rfl); (try simp only [Act.put, List.setIfInBounds_toArray, List.set_cons_zero, List.set_cons_succ])) | ((refine CalmSeq.cons ?_ (Calm.call (f := ?_) (args := ?_) (by rfl) ?_ (fun wC hSw => ?_)) ?_; rotate_left 3; (intro wC; go_simp; (refine ⟨?_, ?_⟩ <;> with_reducible rfl)); (go_at_call 71; (with_reducible refine (specIsGraph_is (hXa.up hSw.1) hn HG.out).mono ?_); rintro e wD ⟨rfl, hbD⟩; apply And.intro; (with_reducible rfl); (have hUD := Up.then_ hSw.1 hbD; exact ⟨hUD, fun _ _ hb => hUD.cell hb⟩))); (try simp only [Act.put, List.setIfInBounds_toArray, List.set_cons_zero, List.set_cons_succ])) | ((refine CalmSeq.cons ?_ (Calm.call (f := ?_) (args := ?_) (by rfl) ?_ (fun wC hSw => ?_)) ?_; rotate_left 3; (intro wC; go_simp; (refine ⟨?_, ?_⟩ <;> with_reducible rfl)); (go_at_call 53; (with_reducible refine (specIsTree_is (hLa.up hSw.1) (hRa.up hSw.1) hm hm' HT.out).mono ?_); rintro e wD ⟨rfl, hbD⟩; apply And.intro; (with_reducible rfl); (have hUD := Up.then_ hSw.1 hbD; exact ⟨hUD, fun _ _ hb => hUD.cell hb⟩))); (try simp only [Act.put, List.setIfInBounds_toArray, List.set_cons_zero, List.set_cons_succ])))
      intro w1 hS1
      have hU1 : Up wa w1 := hS1.1
      clear hS1 hV0
      go_wp2
      go_ret
      exact ⟨rfl, Up.then_ hU0 hU1⟩
    · have HT := Lib.hid ht
      obtain ⟨e, he⟩ : ∃ e, e = decide (sortI (ints b) = ints (maxCliquesOf N X)) := ⟨_, rfl⟩
      have HE := Lib.hid he.symm
      clear ht he
      cases e
      · rw [isCliqTree_ne HE.out]
        go_enter Tryz.func50, Tryz.ntmps50
        go_wp2
        rw [← hwa]
        clear hwa
        have hV0 : Up wa wa.drew := (Up.refl _).drew
        refine wp_region_held_drew (S := (fun w' => Up wa w' ∧ (∀ b o, b < wa.heap.size → w'.cell? ⟨b, o, none⟩ = wa.cell? ⟨b, o, none⟩))) (by kernel_rfl) (by exact ⟨hV0, fun _ _ hb => hV0.cell hb⟩) (fun hHeld => ?_)
        refine wpAnyH_take (i := 0) (v := ?_) rfl (by kernel_rfl) (by kernel_rfl) (by kernel_rfl) (fun _ _ _ h => h) (Or.inl ⟨by rfl, ?_⟩) (by assumption) ?_
        rotate_left
        · (intro w' hSw; go_simp; try with_reducible rfl)
        (try simp only [List.getElem_toArray]); (try simp only [List.getElem_cons_succ]); (try simp only [List.getElem_cons_zero]); (try simp only [Act.put]); (try simp only [List.setIfInBounds_toArray]); (try simp only [List.set_cons_succ]); (try simp only [List.set_cons_zero])
        refine wpAnyH_ready (rs := [1]) (by kernel_rfl) (by simp) ?_
        refine AllReadyH.cons rfl (fun K hK => ?_) AllReadyH.nil
        go_simp
        go_at_call 71
        refine (specIsGraph_is (hXa.up hV0) hn HG.out).mono ?_
        rintro e w10 ⟨rfl, hb10⟩
        have hV1 := Up.then_ hV0 hb10
        go_wp2_with fail
        refine hK.out _ _ (by exact ⟨hV1, fun _ _ hb => hV1.cell hb⟩) (fun hHeld1 => ?_)
        clear hK K
        (try simp only [List.getElem_toArray]); (try simp only [List.getElem_cons_succ]); (try simp only [List.getElem_cons_zero]); (try simp only [Act.put]); (try simp only [List.setIfInBounds_toArray]); (try simp only [List.set_cons_succ]); (try simp only [List.set_cons_zero])
        refine wpAnyH_take (i := 2) (v := ?_) rfl (by kernel_rfl) (by kernel_rfl) (by kernel_rfl) (fun _ _ _ h => h) (Or.inl ⟨by rfl, ?_⟩) (by assumption) ?_
        rotate_left
        · (intro w' hSw; go_simp; try with_reducible rfl)
        (try simp only [List.getElem_toArray]); (try simp only [List.getElem_cons_succ]); (try simp only [List.getElem_cons_zero]); (try simp only [Act.put]); (try simp only [List.setIfInBounds_toArray]); (try simp only [List.set_cons_succ]); (try simp only [List.set_cons_zero])
        refine wpAnyH_take (i := 3) (v := ?_) rfl (by kernel_rfl) (by kernel_rfl) (by kernel_rfl) (fun _ _ _ h => h) (Or.inl ⟨by rfl, ?_⟩) (by assumption) ?_
        rotate_left
        · (intro w' hSw; go_simp; try with_reducible rfl)
        (try simp only [List.getElem_toArray]); (try simp only [List.getElem_cons_succ]); (try simp only [List.getElem_cons_zero]); (try simp only [Act.put]); (try simp only [List.setIfInBounds_toArray]); (try simp only [List.set_cons_succ]); (try simp only [List.set_cons_zero])
        refine wpAnyH_ready (rs := [4]) (by kernel_rfl) (by simp) ?_
        refine AllReadyH.cons rfl (fun K hK => ?_) AllReadyH.nil
        go_simp
        go_at_call 53
        refine (specIsTree_is (hLa.up hV1) (hRa.up hV1) hm hm' HT.out).mono ?_
        rintro e w11 ⟨rfl, hb11⟩
        have hV2 := Up.then_ hV1 hb11
        go_wp2_with fail
        refine hK.out _ _ (by exact ⟨hV2, fun _ _ hb => hV2.cell hb⟩) (fun hHeld2 => ?_)
        clear hK K
        (try simp only [List.getElem_toArray]); (try simp only [List.getElem_cons_succ]); (try simp only [List.getElem_cons_zero]); (try simp only [Act.put]); (try simp only [List.setIfInBounds_toArray]); (try simp only [List.set_cons_succ]); (try simp only [List.set_cons_zero])
        refine wpAnyH_take (i := 5) (v := ?_) rfl (by kernel_rfl) (by kernel_rfl) (by kernel_rfl) (fun _ _ _ h => h) (Or.inl ⟨by rfl, ?_⟩) (by assumption) ?_
        rotate_left
        · (intro w' hSw; go_simp; try with_reducible rfl)
        (try simp only [List.getElem_toArray]); (try simp only [List.getElem_cons_succ]); (try simp only [List.getElem_cons_zero]); (try simp only [Act.put]); (try simp only [List.setIfInBounds_toArray]); (try simp only [List.set_cons_succ]); (try simp only [List.set_cons_zero])
        refine wpAnyH_take (i := 6) (v := ?_) rfl (by kernel_rfl) (by kernel_rfl) (by kernel_rfl) (fun _ _ _ h => h) (Or.inl ⟨by rfl, ?_⟩) (by assumption) ?_
        rotate_left
        · (intro w' hSw; go_simp; try with_reducible rfl)
        (try simp only [List.getElem_toArray]); (try simp only [List.getElem_cons_succ]); (try simp only [List.getElem_cons_zero]); (try simp only [Act.put]); (try simp only [List.setIfInBounds_toArray]); (try simp only [List.set_cons_succ]); (try simp only [List.set_cons_zero])
        refine wpAnyH_take (i := 7) (v := ?_) rfl (by kernel_rfl) (by kernel_rfl) (by kernel_rfl) (fun _ _ _ h => h) (Or.inl ⟨by rfl, ?_⟩) (by assumption) ?_
        rotate_left
        · (intro w' hSw; go_simp; try with_reducible rfl)
        (try simp only [List.getElem_toArray]); (try simp only [List.getElem_cons_succ]); (try simp only [List.getElem_cons_zero]); (try simp only [Act.put]); (try simp only [List.setIfInBounds_toArray]); (try simp only [List.set_cons_succ]); (try simp only [List.set_cons_zero])
        refine wpAnyH_take (i := 8) (v := ?_) rfl (by kernel_rfl) (by kernel_rfl) (by kernel_rfl) (fun _ _ _ h => h) (Or.inl ⟨by rfl, ?_⟩) (by assumption) ?_
        rotate_left
        · (intro w' hSw; go_simp; try with_reducible rfl)
        (try simp only [List.getElem_toArray]); (try simp only [List.getElem_cons_succ]); (try simp only [List.getElem_cons_zero]); (try simp only [Act.put]); (try simp only [List.setIfInBounds_toArray]); (try simp only [List.set_cons_succ]); (try simp only [List.set_cons_zero])
        refine wpAnyH_take (i := 10) (v := ?_) rfl (by kernel_rfl) (by kernel_rfl) (by kernel_rfl) (fun _ _ _ h => h) (Or.inl ⟨by rfl, ?_⟩) (by assumption) ?_
        rotate_left
        · (intro w' hSw; go_simp; try with_reducible rfl)
        (try simp only [List.getElem_toArray]); (try simp only [List.getElem_cons_succ]); (try simp only [List.getElem_cons_zero]); (try simp only [Act.put]); (try simp only [List.setIfInBounds_toArray]); (try simp only [List.set_cons_succ]); (try simp only [List.set_cons_zero])
        refine wpAnyH_ready (rs := [9]) (by kernel_rfl) (by simp) ?_
        refine AllReadyH.cons rfl (fun K hK => ?_) AllReadyH.nil
        go_simp
        go_at_call 103
        refine (l8Sorted_any B m ca (ints b) _ (hLa.up hV2) hm).mono ?_
        rintro e w12 ⟨A9, c9, rfl, hown9, hb12⟩
        have hV3 := Up.then_ hV2 hb12
        go_wp2_with fail
        refine hK.out _ _ (by exact ⟨hV3, fun _ _ hb => hV3.cell hb⟩) (fun hHeld3 => ?_)
        clear hK K
        (try simp only [List.getElem_toArray]); (try simp only [List.getElem_cons_succ]); (try simp only [List.getElem_cons_zero]); (try simp only [Act.put]); (try simp only [List.setIfInBounds_toArray]); (try simp only [List.set_cons_succ]); (try simp only [List.set_cons_zero])
        refine wpAnyH_ready (rs := [11]) (by kernel_rfl) (by simp) ?_
        refine AllReadyH.cons rfl (fun K hK => ?_) AllReadyH.nil
        go_simp
        go_at_call 82
        refine (specCliques_out (hXa.up hV3) hn).mono ?_
        rintro e w13 ⟨A11, c11, rfl, hown11, hb13⟩
        have hV4 := Up.then_ hV3 hb13
        go_wp2_with fail
        refine hK.out _ _ (by exact ⟨hV4, fun _ _ hb => hV4.cell hb⟩) (fun hHeld4 => ?_)
        clear hK K
        (try simp only [List.getElem_toArray]); (try simp only [List.getElem_cons_succ]); (try simp only [List.getElem_cons_zero]); (try simp only [Act.put]); (try simp only [List.setIfInBounds_toArray]); (try simp only [List.set_cons_succ]); (try simp only [List.set_cons_zero])
        refine wpAnyH_ready (rs := [12]) (by kernel_rfl) (by simp) ?_
        refine AllReadyH.cons rfl (fun K hK => ?_) AllReadyH.nil
        go_simp
        go_at_call 84
        refine (l8Same_is (hown9.ri.up hb13) hown11.ri hm2 HE.out).mono ?_
        rintro e w14 ⟨rfl, hb14⟩
        have hV5 := Up.then_ hV4 hb14
        go_wp2_with fail
        refine hK.out _ _ (by exact ⟨hV5, fun _ _ hb => hV5.cell hb⟩) (fun hHeld5 => ?_)
        clear hK K
        (try simp only [List.getElem_toArray]); (try simp only [List.getElem_cons_succ]); (try simp only [List.getElem_cons_zero]); (try simp only [Act.put]); (try simp only [List.setIfInBounds_toArray]); (try simp only [List.set_cons_succ]); (try simp only [List.set_cons_zero])
        refine wpAnyH_take (i := 13) (v := ?_) rfl (by kernel_rfl) (by kernel_rfl) (by kernel_rfl) (fun _ _ _ h => h) (Or.inl ⟨by rfl, ?_⟩) (by assumption) ?_
        rotate_left
        · (intro w' hSw; go_simp; try with_reducible rfl)
        (try simp only [List.getElem_toArray]); (try simp only [List.getElem_cons_succ]); (try simp only [List.getElem_cons_zero]); (try simp only [Act.put]); (try simp only [List.setIfInBounds_toArray]); (try simp only [List.set_cons_succ]); (try simp only [List.set_cons_zero])
        refine wpAnyH_take (i := 14) (v := ?_) rfl (by kernel_rfl) (by kernel_rfl) (by kernel_rfl) (fun _ _ _ h => h) (Or.inl ⟨by rfl, ?_⟩) (by assumption) ?_
        rotate_left
        · (intro w' hSw; go_simp; try with_reducible rfl)
        (try simp only [List.getElem_toArray]); (try simp only [List.getElem_cons_succ]); (try simp only [List.getElem_cons_zero]); (try simp only [Act.put]); (try simp only [List.setIfInBounds_toArray]); (try simp only [List.set_cons_succ]); (try simp only [List.set_cons_zero])
        refine wpAnyH_take (i := 15) (v := undef) rfl (by kernel_rfl) (by kernel_rfl) (by kernel_rfl) (fun _ _ _ h => h) (Or.inr ⟨by rfl, rfl⟩) (by assumption) ?_
        (try simp only [List.getElem_toArray]); (try simp only [List.getElem_cons_succ]); (try simp only [List.getElem_cons_zero]); (try simp only [Act.put]); (try simp only [List.setIfInBounds_toArray]); (try simp only [List.set_cons_succ]); (try simp only [List.set_cons_zero])
        refine wpAnyH_take (i := 16) (v := undef) rfl (by kernel_rfl) (by kernel_rfl) (by kernel_rfl) (fun _ _ _ h => h) (Or.inr ⟨by rfl, rfl⟩) (by assumption) ?_
        (try simp only [List.getElem_toArray]); (try simp only [List.getElem_cons_succ]); (try simp only [List.getElem_cons_zero]); (try simp only [Act.put]); (try simp only [List.setIfInBounds_toArray]); (try simp only [List.set_cons_succ]); (try simp only [List.set_cons_zero])
        refine wpAnyH_take (i := 17) (v := ?_) rfl (by kernel_rfl) (by kernel_rfl) (by kernel_rfl) (fun _ _ _ h => h) (Or.inl ⟨by rfl, ?_⟩) (by assumption) ?_
        rotate_left
        · (intro w' hSw; go_simp; try with_reducible rfl)
        (try simp only [List.getElem_toArray]); (try simp only [List.getElem_cons_succ]); (try simp only [List.getElem_cons_zero]); (try simp only [Act.put]); (try simp only [List.setIfInBounds_toArray]); (try simp only [List.set_cons_succ]); (try simp only [List.set_cons_zero])
        refine wpAnyH_take (i := 18) (v := ?_) rfl (by kernel_rfl) (by kernel_rfl) (by kernel_rfl) (fun _ _ _ h => h) (Or.inl ⟨by rfl, ?_⟩) (by assumption) ?_
        rotate_left
        · (intro w' hSw; go_simp; try with_reducible rfl)
        (try simp only [List.getElem_toArray]); (try simp only [List.getElem_cons_succ]); (try simp only [List.getElem_cons_zero]); (try simp only [Act.put]); (try simp only [List.setIfInBounds_toArray]); (try simp only [List.set_cons_succ]); (try simp only [List.set_cons_zero])
        refine wpAnyH_done (by kernel_rfl) ?_ _
        have hU1 := hV5
        go_wp2
        go_ret
        exact ⟨rfl, Up.then_ hU0 hU1⟩
      · have hmb : m = b.length := by rw [← hL.1, ints_len]
        subst hmb
        have hmb' : m' = b.length := by rw [← hR.1]; exact hRl
        subst hmb'
        obtain ⟨f, hf⟩ : ∃ f, f = joinAll b R 7 := ⟨_, rfl⟩
        have HJ := Lib.hid (show isCliqTree N X (ints b) R = f by rw [isCliqTree_yes HG.out HT.out HE.out, hf])
        have HF := Lib.hid hf.symm
        rw [HJ.out]
        have HB := Lib.hid hb128
        clear hb128 hRl hf
        go_enter Tryz.func50, Tryz.ntmps50
        go_wp2
        rw [← hwa]
        clear hwa
        have hV0 : Up wa wa.drew := (Up.refl _).drew
        refine wp_region_held_drew (S := (fun w' => Up wa w' ∧ (∀ b o, b < wa.heap.size → w'.cell? ⟨b, o, none⟩ = wa.cell? ⟨b, o, none⟩))) (by kernel_rfl) (by exact ⟨hV0, fun _ _ hb => hV0.cell hb⟩) (fun hHeld => ?_)
        refine wpAnyH_take (i := 0) (v := ?_) rfl (by kernel_rfl) (by kernel_rfl) (by kernel_rfl) (fun _ _ _ h => h) (Or.inl ⟨by rfl, ?_⟩) (by assumption) ?_
        rotate_left
        · (intro w' hSw; go_simp; try with_reducible rfl)
        (try simp only [List.getElem_toArray]); (try simp only [List.getElem_cons_succ]); (try simp only [List.getElem_cons_zero]); (try simp only [Act.put]); (try simp only [List.setIfInBounds_toArray]); (try simp only [List.set_cons_succ]); (try simp only [List.set_cons_zero])
        refine wpAnyH_ready (rs := [1]) (by kernel_rfl) (by simp) ?_
        refine AllReadyH.cons rfl (fun K hK => ?_) AllReadyH.nil
        go_simp
        go_at_call 71
        refine (specIsGraph_is (hXa.up hV0) hn HG.out).mono ?_
        rintro e w10 ⟨rfl, hb10⟩
        have hV1 := Up.then_ hV0 hb10
        go_wp2_with fail
        refine hK.out _ _ (by exact ⟨hV1, fun _ _ hb => hV1.cell hb⟩) (fun hHeld1 => ?_)
        clear hK K
        (try simp only [List.getElem_toArray]); (try simp only [List.getElem_cons_succ]); (try simp only [List.getElem_cons_zero]); (try simp only [Act.put]); (try simp only [List.setIfInBounds_toArray]); (try simp only [List.set_cons_succ]); (try simp only [List.set_cons_zero])
        refine wpAnyH_take (i := 2) (v := ?_) rfl (by kernel_rfl) (by kernel_rfl) (by kernel_rfl) (fun _ _ _ h => h) (Or.inl ⟨by rfl, ?_⟩) (by assumption) ?_
        rotate_left
        · (intro w' hSw; go_simp; try with_reducible rfl)
        (try simp only [List.getElem_toArray]); (try simp only [List.getElem_cons_succ]); (try simp only [List.getElem_cons_zero]); (try simp only [Act.put]); (try simp only [List.setIfInBounds_toArray]); (try simp only [List.set_cons_succ]); (try simp only [List.set_cons_zero])
        refine wpAnyH_take (i := 3) (v := ?_) rfl (by kernel_rfl) (by kernel_rfl) (by kernel_rfl) (fun _ _ _ h => h) (Or.inl ⟨by rfl, ?_⟩) (by assumption) ?_
        rotate_left
        · (intro w' hSw; go_simp; try with_reducible rfl)
        (try simp only [List.getElem_toArray]); (try simp only [List.getElem_cons_succ]); (try simp only [List.getElem_cons_zero]); (try simp only [Act.put]); (try simp only [List.setIfInBounds_toArray]); (try simp only [List.set_cons_succ]); (try simp only [List.set_cons_zero])
        refine wpAnyH_ready (rs := [4]) (by kernel_rfl) (by simp) ?_
        refine AllReadyH.cons rfl (fun K hK => ?_) AllReadyH.nil
        go_simp
        go_at_call 53
        refine (specIsTree_is (hLa.up hV1) (hRa.up hV1) hm hm' HT.out).mono ?_
        rintro e w11 ⟨rfl, hb11⟩
        have hV2 := Up.then_ hV1 hb11
        go_wp2_with fail
        refine hK.out _ _ (by exact ⟨hV2, fun _ _ hb => hV2.cell hb⟩) (fun hHeld2 => ?_)
        clear hK K
        (try simp only [List.getElem_toArray]); (try simp only [List.getElem_cons_succ]); (try simp only [List.getElem_cons_zero]); (try simp only [Act.put]); (try simp only [List.setIfInBounds_toArray]); (try simp only [List.set_cons_succ]); (try simp only [List.set_cons_zero])
        refine wpAnyH_take (i := 5) (v := ?_) rfl (by kernel_rfl) (by kernel_rfl) (by kernel_rfl) (fun _ _ _ h => h) (Or.inl ⟨by rfl, ?_⟩) (by assumption) ?_
        rotate_left
        · (intro w' hSw; go_simp; try with_reducible rfl)
        (try simp only [List.getElem_toArray]); (try simp only [List.getElem_cons_succ]); (try simp only [List.getElem_cons_zero]); (try simp only [Act.put]); (try simp only [List.setIfInBounds_toArray]); (try simp only [List.set_cons_succ]); (try simp only [List.set_cons_zero])
        refine wpAnyH_take (i := 6) (v := ?_) rfl (by kernel_rfl) (by kernel_rfl) (by kernel_rfl) (fun _ _ _ h => h) (Or.inl ⟨by rfl, ?_⟩) (by assumption) ?_
        rotate_left
        · (intro w' hSw; go_simp; try with_reducible rfl)
        (try simp only [List.getElem_toArray]); (try simp only [List.getElem_cons_succ]); (try simp only [List.getElem_cons_zero]); (try simp only [Act.put]); (try simp only [List.setIfInBounds_toArray]); (try simp only [List.set_cons_succ]); (try simp only [List.set_cons_zero])
        refine wpAnyH_take (i := 7) (v := ?_) rfl (by kernel_rfl) (by kernel_rfl) (by kernel_rfl) (fun _ _ _ h => h) (Or.inl ⟨by rfl, ?_⟩) (by assumption) ?_
        rotate_left
        · (intro w' hSw; go_simp; try with_reducible rfl)
        (try simp only [List.getElem_toArray]); (try simp only [List.getElem_cons_succ]); (try simp only [List.getElem_cons_zero]); (try simp only [Act.put]); (try simp only [List.setIfInBounds_toArray]); (try simp only [List.set_cons_succ]); (try simp only [List.set_cons_zero])
        refine wpAnyH_take (i := 8) (v := ?_) rfl (by kernel_rfl) (by kernel_rfl) (by kernel_rfl) (fun _ _ _ h => h) (Or.inl ⟨by rfl, ?_⟩) (by assumption) ?_
        rotate_left
        · (intro w' hSw; go_simp; try with_reducible rfl)
        (try simp only [List.getElem_toArray]); (try simp only [List.getElem_cons_succ]); (try simp only [List.getElem_cons_zero]); (try simp only [Act.put]); (try simp only [List.setIfInBounds_toArray]); (try simp only [List.set_cons_succ]); (try simp only [List.set_cons_zero])
        refine wpAnyH_take (i := 10) (v := ?_) rfl (by kernel_rfl) (by kernel_rfl) (by kernel_rfl) (fun _ _ _ h => h) (Or.inl ⟨by rfl, ?_⟩) (by assumption) ?_
        rotate_left
        · (intro w' hSw; go_simp; try with_reducible rfl)
        (try simp only [List.getElem_toArray]); (try simp only [List.getElem_cons_succ]); (try simp only [List.getElem_cons_zero]); (try simp only [Act.put]); (try simp only [List.setIfInBounds_toArray]); (try simp only [List.set_cons_succ]); (try simp only [List.set_cons_zero])
        refine wpAnyH_ready (rs := [9]) (by kernel_rfl) (by simp) ?_
        refine AllReadyH.cons rfl (fun K hK => ?_) AllReadyH.nil
        go_simp
        go_at_call 103
        refine (l8Sorted_any B b.length ca (ints b) _ (hLa.up hV2) hm).mono ?_
        rintro e w12 ⟨A9, c9, rfl, hown9, hb12⟩
        have hV3 := Up.then_ hV2 hb12
        go_wp2_with fail
        refine hK.out _ _ (by exact ⟨hV3, fun _ _ hb => hV3.cell hb⟩) (fun hHeld3 => ?_)
        clear hK K
        (try simp only [List.getElem_toArray]); (try simp only [List.getElem_cons_succ]); (try simp only [List.getElem_cons_zero]); (try simp only [Act.put]); (try simp only [List.setIfInBounds_toArray]); (try simp only [List.set_cons_succ]); (try simp only [List.set_cons_zero])
        refine wpAnyH_ready (rs := [11]) (by kernel_rfl) (by simp) ?_
        refine AllReadyH.cons rfl (fun K hK => ?_) AllReadyH.nil
        go_simp
        go_at_call 82
        refine (specCliques_out (hXa.up hV3) hn).mono ?_
        rintro e w13 ⟨A11, c11, rfl, hown11, hb13⟩
        have hV4 := Up.then_ hV3 hb13
        go_wp2_with fail
        refine hK.out _ _ (by exact ⟨hV4, fun _ _ hb => hV4.cell hb⟩) (fun hHeld4 => ?_)
        clear hK K
        (try simp only [List.getElem_toArray]); (try simp only [List.getElem_cons_succ]); (try simp only [List.getElem_cons_zero]); (try simp only [Act.put]); (try simp only [List.setIfInBounds_toArray]); (try simp only [List.set_cons_succ]); (try simp only [List.set_cons_zero])
        refine wpAnyH_ready (rs := [12]) (by kernel_rfl) (by simp) ?_
        refine AllReadyH.cons rfl (fun K hK => ?_) AllReadyH.nil
        go_simp
        go_at_call 84
        refine (l8Same_is (hown9.ri.up hb13) hown11.ri hm2 HE.out).mono ?_
        rintro e w14 ⟨rfl, hb14⟩
        have hV5 := Up.then_ hV4 hb14
        go_wp2_with fail
        refine hK.out _ _ (by exact ⟨hV5, fun _ _ hb => hV5.cell hb⟩) (fun hHeld5 => ?_)
        clear hK K
        (try simp only [List.getElem_toArray]); (try simp only [List.getElem_cons_succ]); (try simp only [List.getElem_cons_zero]); (try simp only [Act.put]); (try simp only [List.setIfInBounds_toArray]); (try simp only [List.set_cons_succ]); (try simp only [List.set_cons_zero])
        refine wpAnyH_take (i := 13) (v := ?_) rfl (by kernel_rfl) (by kernel_rfl) (by kernel_rfl) (fun _ _ _ h => h) (Or.inl ⟨by rfl, ?_⟩) (by assumption) ?_
        rotate_left
        · (intro w' hSw; go_simp; try with_reducible rfl)
        (try simp only [List.getElem_toArray]); (try simp only [List.getElem_cons_succ]); (try simp only [List.getElem_cons_zero]); (try simp only [Act.put]); (try simp only [List.setIfInBounds_toArray]); (try simp only [List.set_cons_succ]); (try simp only [List.set_cons_zero])
        refine wpAnyH_take (i := 14) (v := ?_) rfl (by kernel_rfl) (by kernel_rfl) (by kernel_rfl) (fun _ _ _ h => h) (Or.inl ⟨by rfl, ?_⟩) (by assumption) ?_
        rotate_left
        · (intro w' hSw; go_simp; try with_reducible rfl)
        (try simp only [List.getElem_toArray]); (try simp only [List.getElem_cons_succ]); (try simp only [List.getElem_cons_zero]); (try simp only [Act.put]); (try simp only [List.setIfInBounds_toArray]); (try simp only [List.set_cons_succ]); (try simp only [List.set_cons_zero])
        refine wpAnyH_take (i := 15) (v := ?_) rfl (by kernel_rfl) (by kernel_rfl) (by kernel_rfl) (fun _ _ _ h => h) (Or.inl ⟨by rfl, ?_⟩) (by assumption) ?_
        rotate_left
        · (intro w' hSw; go_simp; try with_reducible rfl)
        (try simp only [List.getElem_toArray]); (try simp only [List.getElem_cons_succ]); (try simp only [List.getElem_cons_zero]); (try simp only [Act.put]); (try simp only [List.setIfInBounds_toArray]); (try simp only [List.set_cons_succ]); (try simp only [List.set_cons_zero])
        refine wpAnyH_ready (rs := [16]) (by kernel_rfl) (by simp) ?_
        refine AllReadyH.cons rfl (fun K hK => ?_) AllReadyH.nil
        go_simp
        go_at_call 104
        refine (l8Joined_is HT.out HB.out hb20 (hLa.up hV5) (hRa.up hV5) HF.out).mono ?_
        rintro e w15 ⟨rfl, hb15⟩
        have hV6 := Up.then_ hV5 hb15
        go_wp2_with fail
        refine hK.out _ _ (by exact ⟨hV6, fun _ _ hb => hV6.cell hb⟩) (fun hHeld6 => ?_)
        clear hK K
        (try simp only [List.getElem_toArray]); (try simp only [List.getElem_cons_succ]); (try simp only [List.getElem_cons_zero]); (try simp only [Act.put]); (try simp only [List.setIfInBounds_toArray]); (try simp only [List.set_cons_succ]); (try simp only [List.set_cons_zero])
        refine wpAnyH_take (i := 17) (v := ?_) rfl (by kernel_rfl) (by kernel_rfl) (by kernel_rfl) (fun _ _ _ h => h) (Or.inl ⟨by rfl, ?_⟩) (by assumption) ?_
        rotate_left
        · (intro w' hSw; go_simp; try with_reducible rfl)
        (try simp only [List.getElem_toArray]); (try simp only [List.getElem_cons_succ]); (try simp only [List.getElem_cons_zero]); (try simp only [Act.put]); (try simp only [List.setIfInBounds_toArray]); (try simp only [List.set_cons_succ]); (try simp only [List.set_cons_zero])
        refine wpAnyH_take (i := 18) (v := ?_) rfl (by kernel_rfl) (by kernel_rfl) (by kernel_rfl) (fun _ _ _ h => h) (Or.inl ⟨by rfl, ?_⟩) (by assumption) ?_
        rotate_left
        · (intro w' hSw; go_simp; try with_reducible rfl)
        (try simp only [List.getElem_toArray]); (try simp only [List.getElem_cons_succ]); (try simp only [List.getElem_cons_zero]); (try simp only [Act.put]); (try simp only [List.setIfInBounds_toArray]); (try simp only [List.set_cons_succ]); (try simp only [List.set_cons_zero])
        refine wpAnyH_done (by kernel_rfl) ?_ _
        have hU1 := hV6
        go_wp2
        go_ret
        exact ⟨rfl, Up.then_ hU0 hU1⟩
end Go.Proofs.YthncdjcmlpiebaaGreatDoor
namespace Go.Proofs.YthncdjcmlpiebaaGreatDoor
open Go.RowKit
theorem tops_one {b : List Nat} {P : List Int} (R : RIP b P) (_hP : P.length = b.length) (v : Nat) : ∀ k, k ≤ b.length → tops b P v k = if (∃ j, j < k ∧ (nb b j).testBit v = true) then 1 else 0 := by
  classical
  intro k
  induction k with
  | zero =>
    intro _
    rw [if_neg (by rintro ⟨j, hj, _⟩; omega)]
    rfl
  | succ k ih =>
    intro hk
    have ih := ih (by omega)
    by_cases hv : (nb b k).testBit v = true
    · by_cases he : ∃ j, j < k ∧ (nb b j).testBit v = true
      · obtain ⟨j, hj, hvj⟩ := he
        have hp := (R k (by omega) (by omega)).2 j hj v hv hvj
        have ht : topAt b P v k = false := by
          rw [topAt, hv, hp, decide_eq_false (show ¬ k = 0 by omega)]; rfl
        rw [tops_no ht, ih, if_pos ⟨j, hj, hvj⟩, if_pos ⟨j, by omega, hvj⟩]
      · have ht : topAt b P v k = true := by
          rw [topAt, hv, Bool.true_and, Bool.or_eq_true, decide_eq_true_eq, Bool.not_eq_true']
          by_cases h0 : k = 0
          · exact .inl h0
          · refine .inr (Bool.eq_false_iff.2 fun e => he ⟨(P.getD k 0).toNat, ?_, e⟩)
            have := (R k (by omega) (by omega)).1
            omega
        rw [tops_yes ht, ih, if_neg he, if_pos ⟨k, by omega, hv⟩]
    · have ht : topAt b P v k = false := by rw [topAt, Bool.eq_false_iff.2 hv]; rfl
      rw [tops_no ht, ih]
      have : (∃ j, j < k ∧ (nb b j).testBit v = true) ↔ ∃ j, j < k + 1 ∧ (nb b j).testBit v = true := ⟨fun ⟨j, hj, h⟩ => ⟨j, by omega, h⟩, fun ⟨j, hj, h⟩ => ⟨j, by
        rcases Nat.lt_succ_iff_lt_or_eq.1 hj with h' | rfl
        · exact h'
        · exact absurd h hv, h⟩⟩
      simp only [this]
theorem rip_hang {b : List Nat} {P : List Int} (R : RIP b P) (hP : P.length = b.length) (v : Nat) : hang b P v = true := by
  classical
  rw [hang, tops_one R hP v _ (Nat.le_refl _), decide_eq_true_eq]
  split <;> omega
theorem tops_mono {b : List Nat} {P : List Int} {v : Nat} {j : Nat} : ∀ {k}, j ≤ k → tops b P v j ≤ tops b P v k
  | 0, h => by obtain rfl : j = 0 := by omega
               exact Nat.le_refl _
  | k + 1, h => by
    rcases Nat.lt_or_ge k j with h' | h'
    · obtain rfl : j = k + 1 := by omega
      exact Nat.le_refl _
    · refine Nat.le_trans (tops_mono h') ?_
      rw [tops]; omega
theorem hang_rip {b : List Nat} {P : List Int} (hp : ∀ i, 0 < i → i < b.length → 0 ≤ P.getD i 0 ∧ P.getD i 0 < (i : Int)) (hh : ∀ v, hang b P v = true) : RIP b P := by
  intro i h0 hi
  refine ⟨hp i h0 hi, fun j hj v hv hvj => Classical.byContradiction fun hn => ?_⟩
  have h1 := hh v
  rw [hang, decide_eq_true_eq] at h1
  obtain ⟨t, ht, h2, h3⟩ := least_of (fun j => (nb b j).testBit v = true) j hvj
  have htt : topAt b P v t = true := by
    rw [topAt, h2, Bool.true_and, Bool.or_eq_true, decide_eq_true_eq, Bool.not_eq_true']
    by_cases e : t = 0
    · exact .inl e
    · refine .inr (Bool.eq_false_iff.2 (h3 _ ?_))
      have := hp t (by omega) (by omega)
      omega
  have hti : topAt b P v i = true := by
    rw [topAt, hv, Bool.true_and, Bool.or_eq_true, Bool.not_eq_true']
    exact .inr (Bool.eq_false_iff.2 hn)
  have a1 := tops_yes htt
  have a2 := tops_yes hti
  have a3 := tops_mono (b := b) (P := P) (v := v) (show t + 1 ≤ i by omega)
  have a4 := tops_mono (b := b) (P := P) (v := v) (show i + 1 ≤ b.length by omega)
  omega
section
variable {n : Nat} {Q b : List Nat} {P : List Int}
theorem CT.isTree (C : CT n Q b P) (h : GOk n Q) (h20 : b.length ≤ 20) : isTree (ints b) P = true := by
  have hp := maxCliques_pos h
  have hl := C.perm.length_eq
  have h7 : 2 ^ n ≤ 128 := pow_le7 h.le
  refine isTree_true (by rw [ints_len]; omega) (by rw [ints_len]; exact h20) (by rw [ints_len]; exact C.pl) fun j hj => ?_
  rw [ints_len] at hj
  have hb := (C.bag hj).1
  rcases Nat.eq_zero_or_pos j with rfl | h0
  · rw [tOk_zero, ints_nb]
    exact ⟨by omega, C.p0⟩
  · rw [tOk_pos h0, ints_nb]
    have := (C.rip j h0 hj).1
    omega
theorem CT.sorted (C : CT n Q b P) : sortI (ints b) = ints (maxCliques Q n) := by
  refine sorted_unique (sortI_sorted _) ?_ ((sortI_perm _).trans (C.perm.map _))
  have := maxK_sorted Q n (2 ^ n - 1)
  rw [ints, List.pairwise_map]
  exact this.imp fun h => by omega
theorem mem_sepK {b : List Nat} {P : List Int} {x : Int} : ∀ {k}, x ∈ sepK b P k ↔ ∃ i, 0 < i ∧ i ≤ k ∧ x = ((nb b i &&& nb b (par P i) : Nat) : Int)
  | 0 => by
    rw [sepK]
    exact ⟨fun h => (by cases h), fun ⟨i, h0, h1, _⟩ => (by omega)⟩
  | k + 1 => by
    rw [sepK, List.mem_append, mem_sepK, List.mem_singleton]
    constructor
    · rintro (⟨i, h0, h1, h2⟩ | h)
      · exact ⟨i, h0, by omega, h2⟩
      · exact ⟨k + 1, by omega, Nat.le_refl _, h⟩
    · rintro ⟨i, h0, h1, h2⟩
      rcases Nat.lt_or_ge k i with h' | h'
      · obtain rfl : i = k + 1 := by omega
        exact .inr h2
      · exact .inl ⟨i, h0, h', h2⟩
theorem CT.seps (C : CT n Q b P) (h : GOk n Q) : Lib.compact (sortI (sepK b P (b.length - 1))) = ints (filtK (minSep Q n) (2 ^ n)) := by
  obtain ⟨xs, hxs⟩ : ∃ xs, xs = sepK b P (b.length - 1) := ⟨_, rfl⟩
  rw [← hxs, compact_once]
  refine sorted_unique (sortI_sorted _) ?_ ?_
  · have : (filtK (minSep Q n) (2 ^ n)).Pairwise (· < ·) := List.Pairwise.sublist List.filter_sublist List.pairwise_lt_range
    rw [ints, List.pairwise_map]
    exact this.imp fun h => by omega
  · refine (sortI_perm _).trans ((List.perm_ext_iff_of_nodup (onceK_nodup _ _) (ints_nodup.2 ((List.nodup_range).sublist List.filter_sublist))).2 fun x => ?_)
    rw [onceK_mem xs x _ (Nat.le_refl _), List.take_length, hxs, mem_sepK, ints_mem]
    constructor
    · rintro ⟨i, h0, h1, rfl⟩
      have hi : i < b.length := by omega
      exact ⟨_, mem_filtK.2 ⟨Nat.lt_of_le_of_lt Nat.and_le_left (C.bag hi).1, C.sep_min h h0 hi⟩, rfl⟩
    · rintro ⟨s, hs, rfl⟩
      obtain ⟨h1, h2⟩ := mem_filtK.1 hs
      obtain ⟨i, h0, hi, e⟩ := C.min_sep h h1 h2
      exact ⟨i, h0, by omega, by rw [e]⟩
theorem tE_bits {n : Nat} {B : List Nat} (h1 : 1 ≤ n) (h7 : n ≤ 7) (x y : Nat) : ∀ m, (∀ j, j < m → nb B j < 2 ^ n) → ((nb (tE n B m) x).testBit y = true ↔ x ≠ y ∧ ∃ j, j < m ∧ (nb B j).testBit x = true ∧ (nb B j).testBit y = true)
  | 0, _ => by
    have : nb (tE n B 0) x = 0 := by
      unfold nb
      simp only [tE, List.getD_eq_getElem?_getD, List.getElem?_replicate]
      split <;> simp
    rw [this, Nat.zero_testBit]
    exact ⟨fun h => (by cases h), fun ⟨_, j, hj, _⟩ => (by omega)⟩
  | m + 1, hB => by
    have hm := hB m (by omega)
    have ih := tE_bits h1 h7 x y m fun j hj => hB j (by omega)
    rw [tE, qE_bits (tE_ok h1 h7 m fun j hj => hB j (by omega)) (listOf_verts hm) _ (Nat.le_refl _), ih, List.take_length]
    have hmem : ∀ z, z ∈ listOf (nb B m) ↔ (nb B m).testBit z = true := fun z => by
      rw [mem_listOf]
      exact ⟨fun e => e.2, fun e => ⟨by have := bit_lt hm e; omega, e⟩⟩
    rw [hmem, hmem]
    constructor
    · rintro (⟨hne, j, hj, h'⟩ | ⟨hne, h', h''⟩)
      · exact ⟨hne, j, by omega, h'⟩
      · exact ⟨hne, m, by omega, h', h''⟩
    · rintro ⟨hne, j, hj, h', h''⟩
      rcases Nat.lt_succ_iff_lt_or_eq.1 hj with hj | rfl
      · exact .inl ⟨hne, j, hj, h', h''⟩
      · exact .inr ⟨hne, h', h''⟩
theorem CT.graph (C : CT n Q b P) (h : GOk n Q) : tE n b b.length = Q := by
  have hB : ∀ j, j < b.length → nb b j < 2 ^ n := fun j hj => (C.bag hj).1
  refine graph_ext (tE_ok h.pos h.le _ hB) h fun x y hx hy => ?_
  rw [Bool.eq_iff_iff, edge, tE_bits h.pos h.le x y _ hB]
  constructor
  · rintro ⟨hne, j, hj, h1, h2⟩
    exact (clq_pairs h).1 (C.bag hj).2.2 x (by have := h.le; omega) h1 y h2 (Ne.symm hne)
  · intro e
    obtain ⟨j, hj, h1, h2⟩ := C.share h hx hy (.inr e)
    exact ⟨fun k => (by subst k; rw [edge_irr h] at e; cases e), j, hj, h1, h2⟩
end
/-- What the clique tree's answers are. -/
theorem tree_facts {N : Int} {X : List Int} (he : (elimOf N X).isSome = true) : isCliqTree N X (ctOf N X).1 (ctOf N X).2.1 = true ∧ treeSeps (ctOf N X).1 (ctOf N X).2.1 = ints (sepsOf N X) ∧ hasGoT (ctOf N X).1 (ctOf N X).2.1 N = true ∧ goTRows (ctOf N X).1 (ctOf N X).2.1 N = X ∧ goTNum (ctOf N X).1 (ctOf N X).2.1 N = N := by
  obtain ⟨o, ho⟩ := Option.isSome_iff_exists.1 he
  rw [ctOf_yes he]
  obtain ⟨n, Q, rfl, rfl, h, e⟩ := chordal_cases he
  have hc := chordal_iff n (ints Q)
  rw [he, h.is, Bool.true_and] at hc
  have hno : ∀ r, ¬ HoleP n Q r := holeOf_none h (by
    rcases hh : holeOf n (ints Q) with _ | r
    · rfl
    · rw [hh] at hc; cases hc)
  rw [elimOf_ok h] at ho
  obtain ⟨t, _, hE⟩ := elimR_elim (full_lt h.le) ho
  have hfew := maxCliques_few h hE
  have C := tree_ct h hno
  rw [e]
  show isCliqTree n (ints Q) (ints (ctB (maxCliques Q n) ((maxCliques Q n).length - 1)).1) (ctB (maxCliques Q n) ((maxCliques Q n).length - 1)).2 = true ∧ treeSeps (ints (ctB (maxCliques Q n) ((maxCliques Q n).length - 1)).1) (ctB (maxCliques Q n) ((maxCliques Q n).length - 1)).2 = ints (sepsOf n (ints Q)) ∧ hasGoT (ints (ctB (maxCliques Q n) ((maxCliques Q n).length - 1)).1) (ctB (maxCliques Q n) ((maxCliques Q n).length - 1)).2 n = true ∧ goTRows (ints (ctB (maxCliques Q n) ((maxCliques Q n).length - 1)).1) (ctB (maxCliques Q n) ((maxCliques Q n).length - 1)).2 n = ints Q ∧ goTNum (ints (ctB (maxCliques Q n) ((maxCliques Q n).length - 1)).1) (ctB (maxCliques Q n) ((maxCliques Q n).length - 1)).2 n = n
  generalize (ctB (maxCliques Q n) ((maxCliques Q n).length - 1)).1 = b at C ⊢
  generalize (ctB (maxCliques Q n) ((maxCliques Q n).length - 1)).2 = P at C ⊢
  have h7 := h.le
  have hl := C.perm.length_eq
  have hT := C.isTree h (by omega)
  have hB : ∀ j, j < b.length → nb b j < 2 ^ n := fun j hj => (C.bag hj).1
  obtain ⟨g1, g2, g3⟩ := hasGoT_yes hT h.pos h.le hB
  refine ⟨?_, ?_, g1, by rw [g2, C.graph h], g3⟩
  · rw [isCliqTree_yes h.is hT (decide_eq_true (by rw [maxCliquesOf_ok h]; exact C.sorted))]
    exact joinAll_true fun v _ => rip_hang C.rip C.pl v
  · rw [treeSeps_ok hT, C.seps h, sepsOf_ok h]
/-- A graph with a clique tree is chordal. -/
theorem cliqTree_chordal {N : Int} {X L R : List Int} (hc : isCliqTree N X L R = true) : (elimOf N X).isSome = true := by
  rw [isCliqTree, Bool.and_eq_true, Bool.and_eq_true, Bool.and_eq_true, decide_eq_true_eq] at hc
  obtain ⟨⟨⟨hg, hT⟩, hs⟩, hj⟩ := hc
  obtain ⟨n, Q, rfl, rfl, h⟩ := isGraph_ok hg
  rcases isTree_cases L R with hn | ⟨_, b, rfl, hb128, _, _, hpl⟩
  · rw [hn] at hT; cases hT
  have eb : (ints b).map Int.toNat = b := by simp [ints, List.map_map, Function.comp_def]
  rw [eb] at hj
  rw [maxCliquesOf_ok h] at hs
  have hsp := isTree_spec hT
  have hh : ∀ v, hang b R v = true := fun v => by
    rcases Nat.lt_or_ge v 7 with hv | hv
    · rw [joinAll, List.all_eq_true] at hj
      exact hj v (List.mem_range.2 hv)
    · rw [hang, tops_none fun j => Nat.testBit_lt_two_pow (Nat.lt_of_lt_of_le (hb128 j) (Nat.pow_le_pow_right (n := 2) (by omega) hv))]
      rfl
  have hpar : ∀ i, 0 < i → i < b.length → 0 ≤ R.getD i 0 ∧ R.getD i 0 < (i : Int) := fun i h0 hi => by
    have := (tOk_pos h0).1 (hsp.2.2.2 i (by rw [ints_len]; exact hi))
    omega
  have hp0 : R.getD 0 0 = -1 := by
    have := hsp.1
    exact (tOk_zero.1 (hsp.2.2.2 0 (by omega))).2
  have hperm : b.Perm (maxCliques Q n) := by
    have h1 : (ints b).Perm (ints (maxCliques Q n)) := by rw [← hs]; exact (sortI_perm _).symm
    have h2 := h1.map Int.toNat
    have e2 : (ints (maxCliques Q n)).map Int.toNat = maxCliques Q n := by simp [ints, List.map_map, Function.comp_def]
    rwa [eb, e2] at h2
  have C : CT n Q b R := ⟨hperm, hang_rip hpar hh, hpl, hp0⟩
  rw [chordal_iff, h.is, Bool.true_and]
  rcases ho : holeOf n (ints Q) with _ | r
  · rfl
  · exact (C.no_hole h (holeOf_some h ho)).elim
end Go.Proofs.YthncdjcmlpiebaaGreatDoor
