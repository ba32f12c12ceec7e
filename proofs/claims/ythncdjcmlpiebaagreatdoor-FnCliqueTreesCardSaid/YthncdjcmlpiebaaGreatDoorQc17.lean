/- Walks of chapter 8: IsCliqueTree. -/
import Derived.Test.YthncdjcmlpiebaaGreatDoorQc13
import Derived.Test.YthncdjcmlpiebaaGreatDoorQc16
namespace Go.Proofs.YthncdjcmlpiebaaGreatDoor
open Go.RowKit
def isCliqTree (N : Int) (X L R : List Int) : Bool := isGraph N X && isTree L R && decide (sortI L = ints (maxCliquesOf N X)) && joinAll (L.map Int.toNat) R 7
set_option maxRecDepth 100000 in
theorem isCliqTree_no {N : Int} {X L R : List Int} (h : isGraph N X = false) : isCliqTree N X L R = false := by rw [isCliqTree, h]; rfl
set_option maxRecDepth 100000 in
theorem isCliqTree_not {N : Int} {X L R : List Int} (h : isTree L R = false) : isCliqTree N X L R = false := by rw [isCliqTree, h, Bool.and_false]; rfl
set_option maxRecDepth 100000 in
theorem isCliqTree_ne {N : Int} {X L R : List Int} (h : decide (sortI L = ints (maxCliquesOf N X)) = false) : isCliqTree N X L R = false := by rw [isCliqTree, h, Bool.and_false]; rfl
set_option maxRecDepth 100000 in
theorem isCliqTree_yes {N : Int} {X R : List Int} {b : List Nat} (hg : isGraph N X = true) (ht : isTree (ints b) R = true) (h : decide (sortI (ints b) = ints (maxCliquesOf N X)) = true) : isCliqTree N X (ints b) R = joinAll b R 7 := by
  have : (ints b).map Int.toNat = b := by simp [ints, List.map_map, Function.comp_def]
  rw [isCliqTree, hg, ht, h, this]; rfl
set_option maxRecDepth 100000 in
theorem bags_lt {n : Nat} {Q b : List Nat} (hk : GOk n Q) (h : decide (sortI (ints b) = ints (maxCliquesOf n (ints Q))) = true) : ∀ j, nb b j < 2 ^ n := by
  have he : sortI (ints b) = ints (maxCliquesOf n (ints Q)) := of_decide_eq_true h
  rw [maxCliquesOf_ok hk] at he
  refine nb_lt_all (Nat.two_pow_pos n) fun x hx => ?_
  have : (x : Int) ∈ ints (maxCliques Q n) := by rw [← he]; exact (sortI_perm _).mem_iff.2 (ints_mem'.2 hx)
  exact maxCliques_lt (ints_mem'.1 this)
set_option maxRecDepth 100000 in
theorem hangs_is {A B : Option Addr} {ca cb v : Nat} {b : List Nat} {R : List Int} {w : World} {f : Bool} (hT : isTree (ints b) R = true) (hb128 : ∀ j, nb b j < 128) (hb20 : b.length ≤ 20) (hL : RI w A b.length (ints b)) (hR : RI w B b.length R) (hv : v < 7) (hf : hang b R v = f) :
    Calls Tryz.prog 90 #[.agg #[.slice A b.length ca, .slice B b.length cb], .int .i64 v] w fun e w' => e = .returned (.bool f) ∧ Below w.heap.size w w' := by
  subst hf; exact hangs_any A B ca cb v b R w hT hb128 hb20 hL hR hv
set_option maxRecDepth 100000 in
set_option maxHeartbeats 4000000 in
theorem implIsCliqueTree_any (N : Int) (A B C : Option Addr) (n c m m' ca cb : Nat) (X L R : List Int) (w : World) (hX : RI w A n X) (hL : RI w B m L) (hR : RI w C m' R) (hn : n ≤ 9223372036854775807) (hm : m ≤ 1048576) (hm' : m' ≤ 1048576) :
    Calls Tryz.prog 38 #[.agg #[.int .i64 N, .slice A n c], .agg #[.slice B m ca, .slice C m' cb]] w fun e w' => e = .returned (.bool (isCliqTree N X L R)) ∧ Below w.heap.size w w' := by
  have hbk := (Blk.new w 29 #[.int .i64 N, .slice A n c]).alloc (.cells #[.slice B m ca, .slice C m' cb] 49)
  have hbt : Blk ((w.alloc (.cells #[.int .i64 N, .slice A n c] 29)).alloc (.cells #[.slice B m ca, .slice C m' cb] 49)) (w.heap.size + 1) 49 #[.slice B m ca, .slice C m' cb] := Blk.new_at (by simp)
  have hU0 : Up w ((w.alloc (.cells #[.int .i64 N, .slice A n c] 29)).alloc (.cells #[.slice B m ca, .slice C m' cb] 49)) := by go_grown
  have hm2 : m ≤ 9223372036854775807 := by omega
  obtain ⟨wa, hwa⟩ : ∃ wa, wa = (w.alloc (.cells #[.int .i64 N, .slice A n c] 29)).alloc (.cells #[.slice B m ca, .slice C m' cb] 49) := ⟨_, rfl⟩
  rw [← hwa] at hU0 hbk hbt
  have hXa := hX.up hU0
  have hLa := hL.up hU0
  have hRa := hR.up hU0
  have hya := hbk.two
  have hla := hbk.lt
  have hyt := hbt.two
  have hlt := hbt.lt
  obtain ⟨g, hg⟩ : ∃ g, g = isGraph N X := ⟨_, rfl⟩
  have HG := Lib.hid hg.symm
  clear hg
  cases g
  · rw [isCliqTree_no HG.out]
    go_enter Tryz.func38, Tryz.ntmps38
    go_wp2
    rw [← hwa]
    clear hwa
    have hV0 : Up wa wa.drew := (Up.refl _).drew
    refine wp_region_calm (S := (fun w' => Up wa w' ∧ (∀ b o, b < wa.heap.size → w'.cell? ⟨b, o, none⟩ = wa.cell? ⟨b, o, none⟩))) (by kernel_rfl) (by kernel_rfl) (by exact ⟨hV0, fun _ _ hb => hV0.cell hb⟩) ?_
    repeat (first | (refine CalmSeq.cons undef (Calm.off (by rfl)) ?_; (try simp only [Act.put, List.setIfInBounds_toArray, List.set_cons_zero, List.set_cons_succ])) | (refine CalmSeq.cons ?_ (Calm.val (by rfl) ?_) ?_; rotate_left; (intro wC hSw; (try dsimp only at hSw); go_simp; done); (try simp only [Act.put, List.setIfInBounds_toArray, List.set_cons_zero, List.set_cons_succ])) | (refine CalmSeq.cons ?_ (Calm.val (by rfl) ?_) ?_; rotate_left; (intro wC hSw; (try dsimp only at hSw); go_simp; with_reducible rfl); (try simp only [Act.put, List.setIfInBounds_toArray, List.set_cons_zero, List.set_cons_succ])) | ((refine CalmSeq.cons ?_ (Calm.call (f := ?_) (args := ?_) (by rfl) ?_ (fun wC hSw => ?_)) ?_; rotate_left 3; (intro wC; go_simp; (refine ⟨?_, ?_⟩ <;> with_reducible rfl)); (go_at_call 87; (with_reducible refine (implIsGraph_is (hXa.up hSw.1) hn HG.out).mono ?_); rintro e wD ⟨rfl, hbD⟩; apply And.intro; (with_reducible rfl); (have hUD := Up.then_ hSw.1 hbD; exact ⟨hUD, fun _ _ hb => hUD.cell hb⟩))); (try simp only [Act.put, List.setIfInBounds_toArray, List.set_cons_zero, List.set_cons_succ])))
    intro w1 hS1
    have hU1 : Up wa w1 := hS1.1
    clear hS1 hV0
    go_wp2
    go_ret
    exact ⟨rfl, Up.then_ hU0 hU1⟩
  · rcases isTree_cases L R with ht | ⟨ht, b, rfl, hb128, hb1, hb20, hRl⟩
    · rw [isCliqTree_not ht]
      have HT := Lib.hid ht
      clear ht
      go_enter Tryz.func38, Tryz.ntmps38
      go_wp2
      rw [← hwa]
      clear hwa
      have hV0 : Up wa wa.drew := (Up.refl _).drew
      refine wp_region_calm (S := (fun w' => Up wa w' ∧ (∀ b o, b < wa.heap.size → w'.cell? ⟨b, o, none⟩ = wa.cell? ⟨b, o, none⟩))) (by kernel_rfl) (by kernel_rfl) (by exact ⟨hV0, fun _ _ hb => hV0.cell hb⟩) ?_
      repeat (first | (refine CalmSeq.cons undef (Calm.off (by rfl)) ?_; (try simp only [Act.put, List.setIfInBounds_toArray, List.set_cons_zero, List.set_cons_succ])) | (refine CalmSeq.cons ?_ (Calm.val (by rfl) ?_) ?_; rotate_left; (intro wC hSw; (try dsimp only at hSw); go_simp; done); (try simp only [Act.put, List.setIfInBounds_toArray, List.set_cons_zero, List.set_cons_succ])) | (refine CalmSeq.cons ?_ (Calm.val (by rfl) ?_) ?_; rotate_left; (intro wC hSw; (try dsimp only at hSw); go_simp; with_reducible rfl); (try simp only [Act.put, List.setIfInBounds_toArray, List.set_cons_zero, List.set_cons_succ])) | ((refine CalmSeq.cons ?_ (Calm.call (f := ?_) (args := ?_) (by rfl) ?_ (fun wC hSw => ?_)) ?_; rotate_left 3; (intro wC; go_simp; (refine ⟨?_, ?_⟩ <;> with_reducible rfl)); (go_at_call 87; (with_reducible refine (implIsGraph_is (hXa.up hSw.1) hn HG.out).mono ?_); rintro e wD ⟨rfl, hbD⟩; apply And.intro; (with_reducible rfl); (have hUD := Up.then_ hSw.1 hbD; exact ⟨hUD, fun _ _ hb => hUD.cell hb⟩))); (try simp only [Act.put, List.setIfInBounds_toArray, List.set_cons_zero, List.set_cons_succ])) | ((refine CalmSeq.cons ?_ (Calm.call (f := ?_) (args := ?_) (by rfl) ?_ (fun wC hSw => ?_)) ?_; rotate_left 3; (intro wC; go_simp; (refine ⟨?_, ?_⟩ <;> with_reducible rfl)); (go_at_call 52; (with_reducible refine (implIsTree_is (hLa.up hSw.1) (hRa.up hSw.1) hm hm' HT.out).mono ?_); rintro e wD ⟨rfl, hbD⟩; apply And.intro; (with_reducible rfl); (have hUD := Up.then_ hSw.1 hbD; exact ⟨hUD, fun _ _ hb => hUD.cell hb⟩))); (try simp only [Act.put, List.setIfInBounds_toArray, List.set_cons_zero, List.set_cons_succ])))
      intro w1 hS1
      have hU1 : Up wa w1 := hS1.1
      clear hS1 hV0
      go_wp2
      go_ret
      exact ⟨rfl, Up.then_ hU0 hU1⟩
    · have HT := Lib.hid ht
      obtain ⟨e, he⟩ : ∃ e, e = decide (sortI (ints b) = ints (maxCliquesOf N X)) := ⟨_, rfl⟩
      have HE := Lib.hid he.symm
      clear ht he
      cases e
      · rw [isCliqTree_ne HE.out]
        go_enter Tryz.func38, Tryz.ntmps38
        go_wp2
        rw [← hwa]
        clear hwa
        have hV0 : Up wa wa.drew := (Up.refl _).drew
        refine wp_region_held_drew (S := (fun w' => Up wa w' ∧ (∀ b o, b < wa.heap.size → w'.cell? ⟨b, o, none⟩ = wa.cell? ⟨b, o, none⟩))) (by kernel_rfl) (by exact ⟨hV0, fun _ _ hb => hV0.cell hb⟩) (fun hHeld => ?_)
        refine wpAnyH_take (i := 0) (v := ?_) rfl (by kernel_rfl) (by kernel_rfl) (by kernel_rfl) (fun _ _ _ h => h) (Or.inl ⟨by rfl, ?_⟩) (by assumption) ?_
        rotate_left
        · (intro w' hSw; go_simp; try with_reducible rfl)
        (try simp only [List.getElem_toArray]); (try simp only [List.getElem_cons_succ]); (try simp only [List.getElem_cons_zero]); (try simp only [Act.put]); (try simp only [List.setIfInBounds_toArray]); (try simp only [List.set_cons_succ]); (try simp only [List.set_cons_zero])
        refine wpAnyH_ready (rs := [1]) (by kernel_rfl) (by simp) ?_
        refine AllReadyH.cons rfl (fun K hK => ?_) AllReadyH.nil
        go_simp
        go_at_call 87
        refine (implIsGraph_is (hXa.up hV0) hn HG.out).mono ?_
        rintro e w10 ⟨rfl, hb10⟩
        have hV1 := Up.then_ hV0 hb10
        go_wp2_with fail
        refine hK.out _ _ (by exact ⟨hV1, fun _ _ hb => hV1.cell hb⟩) (fun hHeld1 => ?_)
        clear hK K
        (try simp only [List.getElem_toArray]); (try simp only [List.getElem_cons_succ]); (try simp only [List.getElem_cons_zero]); (try simp only [Act.put]); (try simp only [List.setIfInBounds_toArray]); (try simp only [List.set_cons_succ]); (try simp only [List.set_cons_zero])
        refine wpAnyH_take (i := 2) (v := ?_) rfl (by kernel_rfl) (by kernel_rfl) (by kernel_rfl) (fun _ _ _ h => h) (Or.inl ⟨by rfl, ?_⟩) (by assumption) ?_
        rotate_left
        · (intro w' hSw; go_simp; try with_reducible rfl)
        (try simp only [List.getElem_toArray]); (try simp only [List.getElem_cons_succ]); (try simp only [List.getElem_cons_zero]); (try simp only [Act.put]); (try simp only [List.setIfInBounds_toArray]); (try simp only [List.set_cons_succ]); (try simp only [List.set_cons_zero])
        refine wpAnyH_take (i := 3) (v := ?_) rfl (by kernel_rfl) (by kernel_rfl) (by kernel_rfl) (fun _ _ _ h => h) (Or.inl ⟨by rfl, ?_⟩) (by assumption) ?_
        rotate_left
        · (intro w' hSw; go_simp; try with_reducible rfl)
        (try simp only [List.getElem_toArray]); (try simp only [List.getElem_cons_succ]); (try simp only [List.getElem_cons_zero]); (try simp only [Act.put]); (try simp only [List.setIfInBounds_toArray]); (try simp only [List.set_cons_succ]); (try simp only [List.set_cons_zero])
        refine wpAnyH_take (i := 4) (v := ?_) rfl (by kernel_rfl) (by kernel_rfl) (by kernel_rfl) (fun _ _ _ h => h) (Or.inl ⟨by rfl, ?_⟩) (by assumption) ?_
        rotate_left
        · (intro w' hSw; go_simp; try with_reducible rfl)
        (try simp only [List.getElem_toArray]); (try simp only [List.getElem_cons_succ]); (try simp only [List.getElem_cons_zero]); (try simp only [Act.put]); (try simp only [List.setIfInBounds_toArray]); (try simp only [List.set_cons_succ]); (try simp only [List.set_cons_zero])
        refine wpAnyH_ready (rs := [5]) (by kernel_rfl) (by simp) ?_
        refine AllReadyH.cons rfl (fun K hK => ?_) AllReadyH.nil
        go_simp
        go_at_call 52
        refine (implIsTree_is (hLa.up hV1) (hRa.up hV1) hm hm' HT.out).mono ?_
        rintro e w11 ⟨rfl, hb11⟩
        have hV2 := Up.then_ hV1 hb11
        go_wp2_with fail
        refine hK.out _ _ (by exact ⟨hV2, fun _ _ hb => hV2.cell hb⟩) (fun hHeld2 => ?_)
        clear hK K
        (try simp only [List.getElem_toArray]); (try simp only [List.getElem_cons_succ]); (try simp only [List.getElem_cons_zero]); (try simp only [Act.put]); (try simp only [List.setIfInBounds_toArray]); (try simp only [List.set_cons_succ]); (try simp only [List.set_cons_zero])
        refine wpAnyH_take (i := 6) (v := ?_) rfl (by kernel_rfl) (by kernel_rfl) (by kernel_rfl) (fun _ _ _ h => h) (Or.inl ⟨by rfl, ?_⟩) (by assumption) ?_
        rotate_left
        · (intro w' hSw; go_simp; try with_reducible rfl)
        (try simp only [List.getElem_toArray]); (try simp only [List.getElem_cons_succ]); (try simp only [List.getElem_cons_zero]); (try simp only [Act.put]); (try simp only [List.setIfInBounds_toArray]); (try simp only [List.set_cons_succ]); (try simp only [List.set_cons_zero])
        refine wpAnyH_take (i := 7) (v := ?_) rfl (by kernel_rfl) (by kernel_rfl) (by kernel_rfl) (fun _ _ _ h => h) (Or.inl ⟨by rfl, ?_⟩) (by assumption) ?_
        rotate_left
        · (intro w' hSw; go_simp; try with_reducible rfl)
        (try simp only [List.getElem_toArray]); (try simp only [List.getElem_cons_succ]); (try simp only [List.getElem_cons_zero]); (try simp only [Act.put]); (try simp only [List.setIfInBounds_toArray]); (try simp only [List.set_cons_succ]); (try simp only [List.set_cons_zero])
        refine wpAnyH_take (i := 8) (v := ?_) rfl (by kernel_rfl) (by kernel_rfl) (by kernel_rfl) (fun _ _ _ h => h) (Or.inl ⟨by rfl, ?_⟩) (by assumption) ?_
        rotate_left
        · (intro w' hSw; go_simp; try with_reducible rfl)
        (try simp only [List.getElem_toArray]); (try simp only [List.getElem_cons_succ]); (try simp only [List.getElem_cons_zero]); (try simp only [Act.put]); (try simp only [List.setIfInBounds_toArray]); (try simp only [List.set_cons_succ]); (try simp only [List.set_cons_zero])
        refine wpAnyH_take (i := 9) (v := ?_) rfl (by kernel_rfl) (by kernel_rfl) (by kernel_rfl) (fun _ _ _ h => h) (Or.inl ⟨by rfl, ?_⟩) (by assumption) ?_
        rotate_left
        · (intro w' hSw; go_simp; try with_reducible rfl)
        (try simp only [List.getElem_toArray]); (try simp only [List.getElem_cons_succ]); (try simp only [List.getElem_cons_zero]); (try simp only [Act.put]); (try simp only [List.setIfInBounds_toArray]); (try simp only [List.set_cons_succ]); (try simp only [List.set_cons_zero])
        refine wpAnyH_take (i := 10) (v := ?_) rfl (by kernel_rfl) (by kernel_rfl) (by kernel_rfl) (fun _ _ _ h => h) (Or.inl ⟨by rfl, ?_⟩) (by assumption) ?_
        rotate_left
        · (intro w' hSw; go_simp; try with_reducible rfl)
        (try simp only [List.getElem_toArray]); (try simp only [List.getElem_cons_succ]); (try simp only [List.getElem_cons_zero]); (try simp only [Act.put]); (try simp only [List.setIfInBounds_toArray]); (try simp only [List.set_cons_succ]); (try simp only [List.set_cons_zero])
        refine wpAnyH_take (i := 12) (v := ?_) rfl (by kernel_rfl) (by kernel_rfl) (by kernel_rfl) (fun _ _ _ h => h) (Or.inl ⟨by rfl, ?_⟩) (by assumption) ?_
        rotate_left
        · (intro w' hSw; go_simp; try with_reducible rfl)
        (try simp only [List.getElem_toArray]); (try simp only [List.getElem_cons_succ]); (try simp only [List.getElem_cons_zero]); (try simp only [Act.put]); (try simp only [List.setIfInBounds_toArray]); (try simp only [List.set_cons_succ]); (try simp only [List.set_cons_zero])
        refine wpAnyH_ready (rs := [11]) (by kernel_rfl) (by simp) ?_
        refine AllReadyH.cons rfl (fun K hK => ?_) AllReadyH.nil
        go_simp
        go_at_call 89
        refine (sorted_any B m ca (ints b) _ (hLa.up hV2) hm).mono ?_
        rintro e w12 ⟨A9, c9, rfl, hown9, hb12⟩
        have hV3 := Up.then_ hV2 hb12
        go_wp2_with fail
        refine hK.out _ _ (by exact ⟨hV3, fun _ _ hb => hV3.cell hb⟩) (fun hHeld3 => ?_)
        clear hK K
        (try simp only [List.getElem_toArray]); (try simp only [List.getElem_cons_succ]); (try simp only [List.getElem_cons_zero]); (try simp only [Act.put]); (try simp only [List.setIfInBounds_toArray]); (try simp only [List.set_cons_succ]); (try simp only [List.set_cons_zero])
        refine wpAnyH_ready (rs := [13]) (by kernel_rfl) (by simp) ?_
        refine AllReadyH.cons rfl (fun K hK => ?_) AllReadyH.nil
        go_simp
        go_at_call 80
        refine (implCliques_out (hXa.up hV3) hn).mono ?_
        rintro e w13 ⟨A11, c11, rfl, hown11, hb13⟩
        have hV4 := Up.then_ hV3 hb13
        go_wp2_with fail
        refine hK.out _ _ (by exact ⟨hV4, fun _ _ hb => hV4.cell hb⟩) (fun hHeld4 => ?_)
        clear hK K
        (try simp only [List.getElem_toArray]); (try simp only [List.getElem_cons_succ]); (try simp only [List.getElem_cons_zero]); (try simp only [Act.put]); (try simp only [List.setIfInBounds_toArray]); (try simp only [List.set_cons_succ]); (try simp only [List.set_cons_zero])
        refine wpAnyH_ready (rs := [14]) (by kernel_rfl) (by simp) ?_
        refine AllReadyH.cons rfl (fun K hK => ?_) AllReadyH.nil
        go_simp
        go_at_call 88
        refine (slEqual_is (hown9.ri.up hb13) hown11.ri hm2 HE.out).mono ?_
        rintro e w14 ⟨rfl, hb14⟩
        have hV5 := Up.then_ hV4 hb14
        go_wp2_with fail
        refine hK.out _ _ (by exact ⟨hV5, fun _ _ hb => hV5.cell hb⟩) (fun hHeld5 => ?_)
        clear hK K
        (try simp only [List.getElem_toArray]); (try simp only [List.getElem_cons_succ]); (try simp only [List.getElem_cons_zero]); (try simp only [Act.put]); (try simp only [List.setIfInBounds_toArray]); (try simp only [List.set_cons_succ]); (try simp only [List.set_cons_zero])
        refine wpAnyH_take (i := 15) (v := ?_) rfl (by kernel_rfl) (by kernel_rfl) (by kernel_rfl) (fun _ _ _ h => h) (Or.inl ⟨by rfl, ?_⟩) (by assumption) ?_
        rotate_left
        · (intro w' hSw; go_simp; try with_reducible rfl)
        (try simp only [List.getElem_toArray]); (try simp only [List.getElem_cons_succ]); (try simp only [List.getElem_cons_zero]); (try simp only [Act.put]); (try simp only [List.setIfInBounds_toArray]); (try simp only [List.set_cons_succ]); (try simp only [List.set_cons_zero])
        refine wpAnyH_take (i := 16) (v := ?_) rfl (by kernel_rfl) (by kernel_rfl) (by kernel_rfl) (fun _ _ _ h => h) (Or.inl ⟨by rfl, ?_⟩) (by assumption) ?_
        rotate_left
        · (intro w' hSw; go_simp; try with_reducible rfl)
        (try simp only [List.getElem_toArray]); (try simp only [List.getElem_cons_succ]); (try simp only [List.getElem_cons_zero]); (try simp only [Act.put]); (try simp only [List.setIfInBounds_toArray]); (try simp only [List.set_cons_succ]); (try simp only [List.set_cons_zero])
        refine wpAnyH_done (by kernel_rfl) ?_ _
        have hU1 := hV5
        go_wp2
        go_ret
        exact ⟨rfl, Up.then_ hU0 hU1⟩
      · obtain ⟨n', Q, rfl, rfl, hk⟩ := isGraph_ok HG.out
        obtain rfl : n = n' := by rw [← hX.1, ints_len, hk.len]
        have HBL := Lib.hid (bags_lt hk HE.out)
        have hn7 := hk.le
        have hmb : m = b.length := by rw [← hL.1, ints_len]
        subst hmb
        have hmb' : m' = b.length := by rw [← hR.1]; exact hRl
        subst hmb'
        have HJ := Lib.hid (show isCliqTree n (ints Q) (ints b) R = joinAll b R n by rw [isCliqTree_yes HG.out HT.out HE.out, joinAll_more hn7 HBL.out])
        rw [HJ.out]
        have HB := Lib.hid hb128
        clear hb128 hRl
        go_enter Tryz.func38, Tryz.ntmps38
        go_wp2
        rw [← hwa]
        clear hwa
        have hV0 : Up wa wa.drew := (Up.refl _).drew
        refine wp_region_held_drew (S := (fun w' => Up wa w' ∧ (∀ b o, b < wa.heap.size → w'.cell? ⟨b, o, none⟩ = wa.cell? ⟨b, o, none⟩))) (by kernel_rfl) (by exact ⟨hV0, fun _ _ hb => hV0.cell hb⟩) (fun hHeld => ?_)
        refine wpAnyH_take (i := 0) (v := ?_) rfl (by kernel_rfl) (by kernel_rfl) (by kernel_rfl) (fun _ _ _ h => h) (Or.inl ⟨by rfl, ?_⟩) (by assumption) ?_
        rotate_left
        · (intro w' hSw; go_simp; try with_reducible rfl)
        (try simp only [List.getElem_toArray]); (try simp only [List.getElem_cons_succ]); (try simp only [List.getElem_cons_zero]); (try simp only [Act.put]); (try simp only [List.setIfInBounds_toArray]); (try simp only [List.set_cons_succ]); (try simp only [List.set_cons_zero])
        refine wpAnyH_ready (rs := [1]) (by kernel_rfl) (by simp) ?_
        refine AllReadyH.cons rfl (fun K hK => ?_) AllReadyH.nil
        go_simp
        go_at_call 87
        refine (implIsGraph_is (hXa.up hV0) hn HG.out).mono ?_
        rintro e w10 ⟨rfl, hb10⟩
        have hV1 := Up.then_ hV0 hb10
        go_wp2_with fail
        refine hK.out _ _ (by exact ⟨hV1, fun _ _ hb => hV1.cell hb⟩) (fun hHeld1 => ?_)
        clear hK K
        (try simp only [List.getElem_toArray]); (try simp only [List.getElem_cons_succ]); (try simp only [List.getElem_cons_zero]); (try simp only [Act.put]); (try simp only [List.setIfInBounds_toArray]); (try simp only [List.set_cons_succ]); (try simp only [List.set_cons_zero])
        refine wpAnyH_take (i := 2) (v := ?_) rfl (by kernel_rfl) (by kernel_rfl) (by kernel_rfl) (fun _ _ _ h => h) (Or.inl ⟨by rfl, ?_⟩) (by assumption) ?_
        rotate_left
        · (intro w' hSw; go_simp; try with_reducible rfl)
        (try simp only [List.getElem_toArray]); (try simp only [List.getElem_cons_succ]); (try simp only [List.getElem_cons_zero]); (try simp only [Act.put]); (try simp only [List.setIfInBounds_toArray]); (try simp only [List.set_cons_succ]); (try simp only [List.set_cons_zero])
        refine wpAnyH_take (i := 3) (v := ?_) rfl (by kernel_rfl) (by kernel_rfl) (by kernel_rfl) (fun _ _ _ h => h) (Or.inl ⟨by rfl, ?_⟩) (by assumption) ?_
        rotate_left
        · (intro w' hSw; go_simp; try with_reducible rfl)
        (try simp only [List.getElem_toArray]); (try simp only [List.getElem_cons_succ]); (try simp only [List.getElem_cons_zero]); (try simp only [Act.put]); (try simp only [List.setIfInBounds_toArray]); (try simp only [List.set_cons_succ]); (try simp only [List.set_cons_zero])
        refine wpAnyH_take (i := 4) (v := ?_) rfl (by kernel_rfl) (by kernel_rfl) (by kernel_rfl) (fun _ _ _ h => h) (Or.inl ⟨by rfl, ?_⟩) (by assumption) ?_
        rotate_left
        · (intro w' hSw; go_simp; try with_reducible rfl)
        (try simp only [List.getElem_toArray]); (try simp only [List.getElem_cons_succ]); (try simp only [List.getElem_cons_zero]); (try simp only [Act.put]); (try simp only [List.setIfInBounds_toArray]); (try simp only [List.set_cons_succ]); (try simp only [List.set_cons_zero])
        refine wpAnyH_ready (rs := [5]) (by kernel_rfl) (by simp) ?_
        refine AllReadyH.cons rfl (fun K hK => ?_) AllReadyH.nil
        go_simp
        go_at_call 52
        refine (implIsTree_is (hLa.up hV1) (hRa.up hV1) hm hm' HT.out).mono ?_
        rintro e w11 ⟨rfl, hb11⟩
        have hV2 := Up.then_ hV1 hb11
        go_wp2_with fail
        refine hK.out _ _ (by exact ⟨hV2, fun _ _ hb => hV2.cell hb⟩) (fun hHeld2 => ?_)
        clear hK K
        (try simp only [List.getElem_toArray]); (try simp only [List.getElem_cons_succ]); (try simp only [List.getElem_cons_zero]); (try simp only [Act.put]); (try simp only [List.setIfInBounds_toArray]); (try simp only [List.set_cons_succ]); (try simp only [List.set_cons_zero])
        refine wpAnyH_take (i := 6) (v := ?_) rfl (by kernel_rfl) (by kernel_rfl) (by kernel_rfl) (fun _ _ _ h => h) (Or.inl ⟨by rfl, ?_⟩) (by assumption) ?_
        rotate_left
        · (intro w' hSw; go_simp; try with_reducible rfl)
        (try simp only [List.getElem_toArray]); (try simp only [List.getElem_cons_succ]); (try simp only [List.getElem_cons_zero]); (try simp only [Act.put]); (try simp only [List.setIfInBounds_toArray]); (try simp only [List.set_cons_succ]); (try simp only [List.set_cons_zero])
        refine wpAnyH_take (i := 7) (v := ?_) rfl (by kernel_rfl) (by kernel_rfl) (by kernel_rfl) (fun _ _ _ h => h) (Or.inl ⟨by rfl, ?_⟩) (by assumption) ?_
        rotate_left
        · (intro w' hSw; go_simp; try with_reducible rfl)
        (try simp only [List.getElem_toArray]); (try simp only [List.getElem_cons_succ]); (try simp only [List.getElem_cons_zero]); (try simp only [Act.put]); (try simp only [List.setIfInBounds_toArray]); (try simp only [List.set_cons_succ]); (try simp only [List.set_cons_zero])
        refine wpAnyH_take (i := 8) (v := ?_) rfl (by kernel_rfl) (by kernel_rfl) (by kernel_rfl) (fun _ _ _ h => h) (Or.inl ⟨by rfl, ?_⟩) (by assumption) ?_
        rotate_left
        · (intro w' hSw; go_simp; try with_reducible rfl)
        (try simp only [List.getElem_toArray]); (try simp only [List.getElem_cons_succ]); (try simp only [List.getElem_cons_zero]); (try simp only [Act.put]); (try simp only [List.setIfInBounds_toArray]); (try simp only [List.set_cons_succ]); (try simp only [List.set_cons_zero])
        refine wpAnyH_take (i := 9) (v := ?_) rfl (by kernel_rfl) (by kernel_rfl) (by kernel_rfl) (fun _ _ _ h => h) (Or.inl ⟨by rfl, ?_⟩) (by assumption) ?_
        rotate_left
        · (intro w' hSw; go_simp; try with_reducible rfl)
        (try simp only [List.getElem_toArray]); (try simp only [List.getElem_cons_succ]); (try simp only [List.getElem_cons_zero]); (try simp only [Act.put]); (try simp only [List.setIfInBounds_toArray]); (try simp only [List.set_cons_succ]); (try simp only [List.set_cons_zero])
        refine wpAnyH_take (i := 10) (v := ?_) rfl (by kernel_rfl) (by kernel_rfl) (by kernel_rfl) (fun _ _ _ h => h) (Or.inl ⟨by rfl, ?_⟩) (by assumption) ?_
        rotate_left
        · (intro w' hSw; go_simp; try with_reducible rfl)
        (try simp only [List.getElem_toArray]); (try simp only [List.getElem_cons_succ]); (try simp only [List.getElem_cons_zero]); (try simp only [Act.put]); (try simp only [List.setIfInBounds_toArray]); (try simp only [List.set_cons_succ]); (try simp only [List.set_cons_zero])
        refine wpAnyH_take (i := 12) (v := ?_) rfl (by kernel_rfl) (by kernel_rfl) (by kernel_rfl) (fun _ _ _ h => h) (Or.inl ⟨by rfl, ?_⟩) (by assumption) ?_
        rotate_left
        · (intro w' hSw; go_simp; try with_reducible rfl)
        (try simp only [List.getElem_toArray]); (try simp only [List.getElem_cons_succ]); (try simp only [List.getElem_cons_zero]); (try simp only [Act.put]); (try simp only [List.setIfInBounds_toArray]); (try simp only [List.set_cons_succ]); (try simp only [List.set_cons_zero])
        refine wpAnyH_ready (rs := [11]) (by kernel_rfl) (by simp) ?_
        refine AllReadyH.cons rfl (fun K hK => ?_) AllReadyH.nil
        go_simp
        go_at_call 89
        refine (sorted_any B b.length ca (ints b) _ (hLa.up hV2) hm).mono ?_
        rintro e w12 ⟨A9, c9, rfl, hown9, hb12⟩
        have hV3 := Up.then_ hV2 hb12
        go_wp2_with fail
        refine hK.out _ _ (by exact ⟨hV3, fun _ _ hb => hV3.cell hb⟩) (fun hHeld3 => ?_)
        clear hK K
        (try simp only [List.getElem_toArray]); (try simp only [List.getElem_cons_succ]); (try simp only [List.getElem_cons_zero]); (try simp only [Act.put]); (try simp only [List.setIfInBounds_toArray]); (try simp only [List.set_cons_succ]); (try simp only [List.set_cons_zero])
        refine wpAnyH_ready (rs := [13]) (by kernel_rfl) (by simp) ?_
        refine AllReadyH.cons rfl (fun K hK => ?_) AllReadyH.nil
        go_simp
        go_at_call 80
        refine (implCliques_out (hXa.up hV3) hn).mono ?_
        rintro e w13 ⟨A11, c11, rfl, hown11, hb13⟩
        have hV4 := Up.then_ hV3 hb13
        go_wp2_with fail
        refine hK.out _ _ (by exact ⟨hV4, fun _ _ hb => hV4.cell hb⟩) (fun hHeld4 => ?_)
        clear hK K
        (try simp only [List.getElem_toArray]); (try simp only [List.getElem_cons_succ]); (try simp only [List.getElem_cons_zero]); (try simp only [Act.put]); (try simp only [List.setIfInBounds_toArray]); (try simp only [List.set_cons_succ]); (try simp only [List.set_cons_zero])
        refine wpAnyH_ready (rs := [14]) (by kernel_rfl) (by simp) ?_
        refine AllReadyH.cons rfl (fun K hK => ?_) AllReadyH.nil
        go_simp
        go_at_call 88
        refine (slEqual_is (hown9.ri.up hb13) hown11.ri hm2 HE.out).mono ?_
        rintro e w14 ⟨rfl, hb14⟩
        have hV5 := Up.then_ hV4 hb14
        go_wp2_with fail
        refine hK.out _ _ (by exact ⟨hV5, fun _ _ hb => hV5.cell hb⟩) (fun hHeld5 => ?_)
        clear hK K
        (try simp only [List.getElem_toArray]); (try simp only [List.getElem_cons_succ]); (try simp only [List.getElem_cons_zero]); (try simp only [Act.put]); (try simp only [List.setIfInBounds_toArray]); (try simp only [List.set_cons_succ]); (try simp only [List.set_cons_zero])
        refine wpAnyH_take (i := 15) (v := ?_) rfl (by kernel_rfl) (by kernel_rfl) (by kernel_rfl) (fun _ _ _ h => h) (Or.inl ⟨by rfl, ?_⟩) (by assumption) ?_
        rotate_left
        · (intro w' hSw; go_simp; try with_reducible rfl)
        (try simp only [List.getElem_toArray]); (try simp only [List.getElem_cons_succ]); (try simp only [List.getElem_cons_zero]); (try simp only [Act.put]); (try simp only [List.setIfInBounds_toArray]); (try simp only [List.set_cons_succ]); (try simp only [List.set_cons_zero])
        refine wpAnyH_take (i := 16) (v := ?_) rfl (by kernel_rfl) (by kernel_rfl) (by kernel_rfl) (fun _ _ _ h => h) (Or.inl ⟨by rfl, ?_⟩) (by assumption) ?_
        rotate_left
        · (intro w' hSw; go_simp; try with_reducible rfl)
        (try simp only [List.getElem_toArray]); (try simp only [List.getElem_cons_succ]); (try simp only [List.getElem_cons_zero]); (try simp only [Act.put]); (try simp only [List.setIfInBounds_toArray]); (try simp only [List.set_cons_succ]); (try simp only [List.set_cons_zero])
        refine wpAnyH_done (by kernel_rfl) ?_ _
        have hU1 := hV5
        have hbk1 := hbk.up hU1
        have hbt1 := hbt.up hU1
        clear hya hla hyt hlt hown9 hown11 hHeld hHeld1 hHeld2 hHeld3 hHeld4 hHeld5
        have hy1 := hbk1.two
        have hl1 := hbk1.lt
        go_wp2_with fail
        go_loopw [25] (fun i wr => ∃ v : Nat, v ≤ n ∧ i = .int .i64 (v : Nat) ∧ Up wa wr ∧ Hid (∀ u, u < v → hang b R u = true)) (fun i _ => n - (intOf i).toNat)
        case atStart => exact ⟨0, Nat.zero_le _, rfl, hU1, fun u h => absurd h (by omega)⟩
        case round =>
          clear hy1 hl1 hbk1 hbt1
          obtain ⟨v, hv, rfl, hb, hall⟩ := hrel
          obtain ⟨wo, rfl⟩ : ∃ wo : World, wo = wr := ⟨_, rfl⟩
          have hbto := hbt.up hb
          have hyo := hbto.two
          have hlo := hbto.lt
          by_cases hvt : v < n
          · have hv7 : v < 7 := by omega
            obtain ⟨f, hf⟩ : ∃ f, f = hang b R v := ⟨_, rfl⟩
            have HF := Lib.hid hf.symm
            clear hf
            go_wp2_with fail
            refine (hangs_is HT.out HB.out hb20 (hLa.up hb) (hRa.up hb) hv7 HF.out).mono ?_
            rintro e w2 ⟨rfl, hb2⟩
            have hU2 := Up.then_ hb hb2
            cases f
            · have HQ := Lib.hid (joinAll_false hvt HF.out)
              go_wp2
              go_ret
              exact ⟨ret_bool HQ.out.symm, Up.then_ hU0 hU2⟩
            · go_wp2
              go_roundw
              case rel => exact ⟨v + 1, by omega, by go_num, hU2, fun u hu => by
                rcases Nat.lt_succ_iff_lt_or_eq.1 hu with h' | rfl
                · exact hall.out u h'
                · exact HF.out⟩
              case measure => simp [intOf]; omega
          · obtain rfl : v = n := by omega
            have HQ := Lib.hid (joinAll_true hall.out)
            go_wp2
            go_ret
            exact ⟨ret_bool HQ.out.symm, Up.then_ hU0 hb⟩
set_option maxRecDepth 100000 in
set_option maxHeartbeats 4000000 in
theorem l8Joined_any (A B : Option Addr) (ca cb : Nat) (b : List Nat) (R : List Int) (w : World) (hT : isTree (ints b) R = true) (hb128 : ∀ j, nb b j < 128) (hb20 : b.length ≤ 20) (hL : RI w A b.length (ints b)) (hR : RI w B b.length R) :
    Calls Tryz.prog 104 #[.agg #[.slice A b.length ca, .slice B b.length cb]] w fun e w' => e = .returned (.bool (joinAll b R 7)) ∧ Below w.heap.size w w' := by
  have hbk := Blk.new w 49 #[.slice A b.length ca, .slice B b.length cb]
  have hU0 : Up w (w.alloc (.cells #[.slice A b.length ca, .slice B b.length cb] 49)) := by go_grown
  have HP := Lib.hid (fun (i : Nat) (h0 : 0 < i) (hi : i < b.length) => parent_nat hT h0 hi)
  have HB := Lib.hid hb128
  clear hT hb128
  go_enter Tryz.func104, Tryz.ntmps104
  go_wp2_with fail
  go_loopw [3] (fun i wr => ∃ v : Nat, v ≤ 7 ∧ i = .int .i64 (v : Nat) ∧ Blk wr w.heap.size 49 #[.slice A b.length ca, .slice B b.length cb] ∧ Up w wr ∧ Hid (∀ u, u < v → hang b R u = true)) (fun i _ => 7 - (intOf i).toNat)
  case atStart => exact ⟨0, Nat.zero_le _, rfl, hbk, hU0, fun u h => absurd h (by omega)⟩
  case round =>
    clear hbk hU0
    obtain ⟨v, hv, rfl, hbk, hb, hall⟩ := hrel
    obtain ⟨wq, rfl⟩ : ∃ wq : World, wq = wr := ⟨_, rfl⟩
    by_cases hvt : v < 7
    · have HLE := Lib.hid (tops_le b R v)
      go_wp2_with fail
      go_loopw [4, 5] (fun s i wr => ∃ k : Nat, k ≤ b.length ∧ i = .int .i64 (k : Nat) ∧ s = .int .i64 (tops b R v k : Nat) ∧ Blk wr w.heap.size 49 #[.slice A b.length ca, .slice B b.length cb] ∧ Up w wr) (fun _ i _ => b.length - (intOf i).toNat)
      case atStart => exact ⟨0, Nat.zero_le _, rfl, rfl, hbk, hb⟩
      case round =>
        clear hbk hb
        obtain ⟨k, hk, rfl, rfl, hbk, hb⟩ := hrel
        obtain ⟨wo, rfl⟩ : ∃ wo : World, wo = wr := ⟨_, rfl⟩
        have hbl := hbk.lt
        have hbc0 := hbk.two.1
        have hbc1 := hbk.two.2
        by_cases hkt : k < b.length
        · obtain ⟨a, rfl, hca⟩ := (hL.up hb).ints_at hkt
          have hab : a.block < wo.heap.size := by have := World.block_lt_of_cell? wo _ hca; rwa [block_of_add] at this
          have hx7 := HB.out k
          have HTA := Lib.hid (show topAt b R v k = ((nb b k).testBit v && (decide (k = 0) || !(nb b (R.getD k 0).toNat).testBit v)) from rfl)
          have HY := Lib.hid (tops_yes (b := b) (P := R) (v := v) (k := k))
          have HN := Lib.hid (tops_no (b := b) (P := R) (v := v) (k := k))
          obtain ⟨x, hx⟩ : ∃ x, x = nb b k := ⟨_, rfl⟩
          rw [← hx] at hx7 hca HTA
          obtain ⟨t, ht⟩ : ∃ t, t = tops b R v k := ⟨_, rfl⟩
          have htl : t ≤ k := by rw [ht]; exact HLE.out k
          rw [← ht] at HY HN ⊢
          clear hx ht
          have hbx := bit_one x v (by omega)
          obtain ⟨e1, he1⟩ : ∃ e, e = x.testBit v := ⟨_, rfl⟩
          rw [← he1] at hbx
          have H1 := Lib.hid he1.symm
          clear he1
          cases e1
          · have HR := Lib.hid (HN.out (by rw [HTA.out, H1.out]; rfl))
            go_wp2
            go_wp2
            have hV0 : Up wo wo.drew := (Up.refl _).drew
            refine wp_region_calm (S := (fun w' => Up wo w' ∧ (∀ b o, b < wo.heap.size → w'.cell? ⟨b, o, none⟩ = wo.cell? ⟨b, o, none⟩) ∧ w'.cell? (⟨w.heap.size, 0, none⟩) = some (.slice (some a) b.length ca) ∧ w'.cell? (a.add k) = some (.int .i64 x))) (by kernel_rfl) (by kernel_rfl) (by exact ⟨hV0, fun _ _ hb => hV0.cell hb, (hV0.cell (by first | assumption | (rw [block_of_add]; assumption))).trans (by assumption), (hV0.cell (by first | assumption | (rw [block_of_add]; assumption))).trans (by assumption)⟩) ?_
            repeat (first | (refine CalmSeq.cons undef (Calm.off (by rfl)) ?_; (try simp only [Act.put, List.setIfInBounds_toArray, List.set_cons_zero, List.set_cons_succ])) | (refine CalmSeq.cons ?_ (Calm.val (by rfl) ?_) ?_; rotate_left; (intro wC hSw; (try dsimp only at hSw); go_simp; done); (try simp only [Act.put, List.setIfInBounds_toArray, List.set_cons_zero, List.set_cons_succ])) | (refine CalmSeq.cons ?_ (Calm.val (by rfl) ?_) ?_; rotate_left; (intro wC hSw; (try dsimp only at hSw); go_simp; with_reducible rfl); (try simp only [Act.put, List.setIfInBounds_toArray, List.set_cons_zero, List.set_cons_succ])))
            intro w2 hS2
            have hU2 : Up wo w2 := hS2.1
            clear hS2 hV0
            have hbk2 := hbk.up hU2
            go_wp2
            go_roundw
            case rel => exact ⟨k + 1, by omega, by go_num, by rw [HR.out], hbk2, Up.then_ hb hU2⟩
            case measure => simp [intOf]; omega
          · rcases Nat.eq_zero_or_pos k with hk0 | hk0
            · have HR := Lib.hid (HY.out (by rw [HTA.out, H1.out, hk0]; rfl))
              have z0 : ((k : Int) == 0) = true := by rw [beq_iff_eq]; omega
              clear hk0
              go_wp2
              go_wp2
              have hV0 : Up wo wo.drew := (Up.refl _).drew
              refine wp_region_calm (S := (fun w' => Up wo w' ∧ (∀ b o, b < wo.heap.size → w'.cell? ⟨b, o, none⟩ = wo.cell? ⟨b, o, none⟩) ∧ w'.cell? (⟨w.heap.size, 0, none⟩) = some (.slice (some a) b.length ca) ∧ w'.cell? (a.add k) = some (.int .i64 x))) (by kernel_rfl) (by kernel_rfl) (by exact ⟨hV0, fun _ _ hb => hV0.cell hb, (hV0.cell (by first | assumption | (rw [block_of_add]; assumption))).trans (by assumption), (hV0.cell (by first | assumption | (rw [block_of_add]; assumption))).trans (by assumption)⟩) ?_
              repeat (first | (refine CalmSeq.cons undef (Calm.off (by rfl)) ?_; (try simp only [Act.put, List.setIfInBounds_toArray, List.set_cons_zero, List.set_cons_succ])) | (refine CalmSeq.cons ?_ (Calm.val (by rfl) ?_) ?_; rotate_left; (intro wC hSw; (try dsimp only at hSw); go_simp; done); (try simp only [Act.put, List.setIfInBounds_toArray, List.set_cons_zero, List.set_cons_succ])) | (refine CalmSeq.cons ?_ (Calm.val (by rfl) ?_) ?_; rotate_left; (intro wC hSw; (try dsimp only at hSw); go_simp; with_reducible rfl); (try simp only [Act.put, List.setIfInBounds_toArray, List.set_cons_zero, List.set_cons_succ])))
              intro w2 hS2
              have hU2 : Up wo w2 := hS2.1
              clear hS2 hV0
              have hbk2 := hbk.up hU2
              go_wp2
              go_roundw
              case rel => exact ⟨k + 1, by omega, by go_num, by rw [HR.out]; go_num, hbk2, Up.then_ hb hU2⟩
              case measure => simp [intOf]; omega
            · obtain ⟨q, hq, hqk, hqn⟩ := HP.out k hk0 hkt
              have z0 : ((k : Int) == 0) = false := by rw [beq_eq_false_iff_ne]; omega
              obtain ⟨a', e, hcq⟩ := (hL.up hb).ints_at (show q < b.length by omega)
              injection e with e
              subst e
              obtain ⟨r, rfl, hrb, hcr⟩ := (hR.up hb).at_ hkt
              rw [hq] at hcr
              have hy7 := HB.out q
              rw [hqn] at HTA
              obtain ⟨y, hy⟩ : ∃ y, y = nb b q := ⟨_, rfl⟩
              rw [← hy] at hy7 hcq HTA
              have hqm : q < b.length := by omega
              clear hy hq hqn
              have hby := bit_zero y v (by omega)
              obtain ⟨e2, he2⟩ : ∃ e, e = y.testBit v := ⟨_, rfl⟩
              rw [← he2] at hby
              have H2 := Lib.hid he2.symm
              have hk0f := decide_eq_false (show ¬ k = 0 by omega)
              have HT2 := Lib.hid (show topAt b R v k = !e2 by rw [HTA.out, H1.out, H2.out, hk0f]; rfl)
              clear he2 hk0f hk0
              cases e2
              · have HR := Lib.hid (HY.out (by rw [HT2.out]; rfl))
                have hby' : (bits .and .i64 ((y : Int) / 2 ^ v) 1 == 0) = true := hby
                clear hby
                go_wp2
                go_wp2
                have hV0 : Up wo wo.drew := (Up.refl _).drew
                refine wp_region_calm (S := (fun w' => Up wo w' ∧ (∀ b o, b < wo.heap.size → w'.cell? ⟨b, o, none⟩ = wo.cell? ⟨b, o, none⟩) ∧ w'.cell? (⟨w.heap.size, 0, none⟩) = some (.slice (some a) b.length ca) ∧ w'.cell? (⟨w.heap.size, 1, none⟩) = some (.slice (some r) b.length cb) ∧ w'.cell? (a.add k) = some (.int .i64 x) ∧ w'.cell? (r.add k) = some (.int .i64 q) ∧ w'.cell? (a.add q) = some (.int .i64 y))) (by kernel_rfl) (by kernel_rfl) (by exact ⟨hV0, fun _ _ hb => hV0.cell hb, (hV0.cell (by first | assumption | (rw [block_of_add]; assumption))).trans (by assumption), (hV0.cell (by first | assumption | (rw [block_of_add]; assumption))).trans (by assumption), (hV0.cell (by first | assumption | (rw [block_of_add]; assumption))).trans (by assumption), (hV0.cell (by first | assumption | (rw [block_of_add]; assumption))).trans (by assumption), (hV0.cell (by first | assumption | (rw [block_of_add]; assumption))).trans (by assumption)⟩) ?_
                repeat (first | (refine CalmSeq.cons undef (Calm.off (by rfl)) ?_; (try simp only [Act.put, List.setIfInBounds_toArray, List.set_cons_zero, List.set_cons_succ])) | (refine CalmSeq.cons ?_ (Calm.val (by rfl) ?_) ?_; rotate_left; (intro wC hSw; (try dsimp only at hSw); go_simp; done); (try simp only [Act.put, List.setIfInBounds_toArray, List.set_cons_zero, List.set_cons_succ])) | (refine CalmSeq.cons ?_ (Calm.val (by rfl) ?_) ?_; rotate_left; (intro wC hSw; (try dsimp only at hSw); go_simp; with_reducible rfl); (try simp only [Act.put, List.setIfInBounds_toArray, List.set_cons_zero, List.set_cons_succ])))
                intro w2 hS2
                have hU2 : Up wo w2 := hS2.1
                clear hS2 hV0
                have hbk2 := hbk.up hU2
                go_wp2
                go_roundw
                case rel => exact ⟨k + 1, by omega, by go_num, by rw [HR.out]; go_num, hbk2, Up.then_ hb hU2⟩
                case measure => simp [intOf]; omega
              · have HR := Lib.hid (HN.out (by rw [HT2.out]; rfl))
                have hby' : (bits .and .i64 ((y : Int) / 2 ^ v) 1 == 0) = false := hby
                clear hby
                go_wp2
                go_wp2
                have hV0 : Up wo wo.drew := (Up.refl _).drew
                refine wp_region_calm (S := (fun w' => Up wo w' ∧ (∀ b o, b < wo.heap.size → w'.cell? ⟨b, o, none⟩ = wo.cell? ⟨b, o, none⟩) ∧ w'.cell? (⟨w.heap.size, 0, none⟩) = some (.slice (some a) b.length ca) ∧ w'.cell? (⟨w.heap.size, 1, none⟩) = some (.slice (some r) b.length cb) ∧ w'.cell? (a.add k) = some (.int .i64 x) ∧ w'.cell? (r.add k) = some (.int .i64 q) ∧ w'.cell? (a.add q) = some (.int .i64 y))) (by kernel_rfl) (by kernel_rfl) (by exact ⟨hV0, fun _ _ hb => hV0.cell hb, (hV0.cell (by first | assumption | (rw [block_of_add]; assumption))).trans (by assumption), (hV0.cell (by first | assumption | (rw [block_of_add]; assumption))).trans (by assumption), (hV0.cell (by first | assumption | (rw [block_of_add]; assumption))).trans (by assumption), (hV0.cell (by first | assumption | (rw [block_of_add]; assumption))).trans (by assumption), (hV0.cell (by first | assumption | (rw [block_of_add]; assumption))).trans (by assumption)⟩) ?_
                repeat (first | (refine CalmSeq.cons undef (Calm.off (by rfl)) ?_; (try simp only [Act.put, List.setIfInBounds_toArray, List.set_cons_zero, List.set_cons_succ])) | (refine CalmSeq.cons ?_ (Calm.val (by rfl) ?_) ?_; rotate_left; (intro wC hSw; (try dsimp only at hSw); go_simp; done); (try simp only [Act.put, List.setIfInBounds_toArray, List.set_cons_zero, List.set_cons_succ])) | (refine CalmSeq.cons ?_ (Calm.val (by rfl) ?_) ?_; rotate_left; (intro wC hSw; (try dsimp only at hSw); go_simp; with_reducible rfl); (try simp only [Act.put, List.setIfInBounds_toArray, List.set_cons_zero, List.set_cons_succ])))
                intro w2 hS2
                have hU2 : Up wo w2 := hS2.1
                clear hS2 hV0
                have hbk2 := hbk.up hU2
                go_wp2
                go_roundw
                case rel => exact ⟨k + 1, by omega, by go_num, by rw [HR.out], hbk2, Up.then_ hb hU2⟩
                case measure => simp [intOf]; omega
        · obtain rfl : k = b.length := by omega
          have HR := Lib.hid (show hang b R v = decide (tops b R v b.length ≤ 1) from rfl)
          obtain ⟨t, ht⟩ : ∃ t, t = tops b R v b.length := ⟨_, rfl⟩
          rw [← ht] at HR ⊢
          clear ht
          by_cases h1 : 1 < t
          · have d1 : decide (1 < (t : Int)) = true := decide_eq_true (by omega)
            have HQ := Lib.hid (joinAll_false (n := 7) hvt (show hang b R v = false by rw [HR.out]; exact decide_eq_false (by omega)))
            go_wp2
            go_ret
            exact ⟨ret_bool HQ.out.symm, hb⟩
          · have d1 : decide (1 < (t : Int)) = false := decide_eq_false (by omega)
            have HQ := Lib.hid (show hang b R v = true by rw [HR.out]; exact decide_eq_true (by omega))
            go_wp2
            go_roundw
            case rel => exact ⟨v + 1, by omega, by go_num, hbk, hb, fun u hu => by
              rcases Nat.lt_succ_iff_lt_or_eq.1 hu with h' | rfl
              · exact hall.out u h'
              · exact HQ.out⟩
            case measure => simp [intOf]; omega
    · obtain rfl : v = 7 := by omega
      have HQ := Lib.hid (joinAll_true (n := 7) hall.out)
      go_wp2
      go_ret
      exact ⟨ret_bool HQ.out.symm, hb⟩
end Go.Proofs.YthncdjcmlpiebaaGreatDoor
