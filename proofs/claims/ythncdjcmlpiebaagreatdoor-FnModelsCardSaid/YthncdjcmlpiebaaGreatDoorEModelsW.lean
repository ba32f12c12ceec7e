/- The law FnModels: its walk. -/
import Derived.Test.YthncdjcmlpiebaaGreatDoorDr9n
import Derived.Test.YthncdjcmlpiebaaGreatDoorPureGn
import Derived.Test.YthncdjcmlpiebaaGreatDoorW9t
import Derived.Test.YthncdjcmlpiebaaGreatDoorW9b
import Derived.Test.YthncdjcmlpiebaaGreatDoorW9d
import Derived.Test.YthncdjcmlpiebaaGreatDoorWv
namespace Go.Proofs.YthncdjcmlpiebaaGreatDoor
open Go.RowKit
set_option maxRecDepth 100000 in
/-- What a model's graph is. -/
theorem models_facts {L R : List Int} (h : isModel L R = true) : (ordOf (goiNum L R) (goiRows L R)).isSome = true ∧ ofGraph (goiNum L R) (goiRows L R) (-1) cliqueNumber = (deepPair L R).2 ∧ (∃ s : Nat, s < 128 ∧ ofGraph (goiNum L R) (goiRows L R) 0 (largestOf indep) = (s : Int) ∧ card s = (stabOf L R).length) ∧ pointsCovered L R (deepPair L R).1 < 128 ∧ ((card (pointsCovered L R (deepPair L R).1) : Nat) : Int) = (deepPair L R).2 ∧ (isProperModel L R = true → (umbOf (goiNum L R) (goiRows L R)).isSome = true) := by
  obtain ⟨e1, e2⟩ := goi_ok h
  have hg := graphRows_ok h
  have h7 := hg.le
  rw [e1, e2]
  refine ⟨model_interval h, ?_, ⟨bestK (indep (graphRows L R)) (2 ^ L.length - 1), ?_, ?_, (stab_indep h).symm⟩, ?_, deep_covers h, fun hp => proper_umb hp⟩
  · rw [ofGraph_ok hg, cliqueNumber, deep_yes h, deep_clique h]
  · have := bestK_le (indep (graphRows L R)) (2 ^ L.length - 1)
    have := full_lt h7
    omega
  · rw [ofGraph_ok hg, largestOf]
  · rw [pc_atP h]
    exact Nat.lt_of_lt_of_le atP_lt (Nat.pow_le_pow_right (n := 2) (by omega) h7)
set_option maxRecDepth 100000 in
set_option maxHeartbeats 8000000 in
theorem lawModels_any (B : Option Addr) (n c : Nat) (bs : List Int) (w : World) (hB : RB w B n bs) (hlow : ∀ ad, B = some ad → ad.block < w.heap.size) (hn : n ≤ 9223372036854775807) :
    Calls Tryz.prog 3 #[.slice B n c] w fun e w' => e = .returned (.bool true) ∧ Below w.heap.size w w' := by
  by_cases hs : n ≤ 1048576
  · go_enter Tryz.func3, Tryz.ntmps3
    go_wp2_with fail
    refine (big_no B n c _ hs).mono ?_
    rintro e w1 ⟨rfl, hb1⟩
    have hU1 : Up w w1 := Up.then_ (by go_grown) hb1
    replace hB := hB.up hU1
    have hlow1 : ∀ ad, B = some ad → ad.block < w1.heap.size := fun ad e => by have := hlow ad e; have := hU1.size; omega
    have hw1 : Below w.heap.size w w1 := hU1
    go_wp2_with fail
    refine (drawGraphOfIntervals_any B n c bs _ hB hs hlow1).mono ?_
    rintro e w2 ⟨A, na, ca, C, nc, cc, L, R, rfl, hA0, hC0, hna, hnc, hb2⟩
    have hU2 : Up w1 w2 := Up.then_ (by go_grown) hb2
    replace hB := hB.up hU2
    have hw2 := Up.then_ hw1 hU2
    have hA := hA0.1
    have hC := hC0.1
    clear hA0 hC0 hU1 hb1 hlow1
    have hU3 : Up w2 (w2.alloc (.cells #[.slice A na ca, .slice C nc cc] 26)) := by go_grown
    have hM := Blk.new w2 26 #[.slice A na ca, .slice C nc cc]
    have hw3 := Up.then_ hw2 hU3
    replace hA := hA.up hU3
    replace hC := hC.up hU3
    replace hB := hB.up hU3
    obtain ⟨g3, hg3⟩ : ∃ g3, g3 = w2.heap.size := ⟨_, rfl⟩
    rw [← hg3] at hM
    go_wp2_with fail
    rw [← hg3]
    generalize w2.alloc (.cells #[.slice A na ca, .slice C nc cc] 26) = w3 at hM hA hC hB hw3 ⊢
    clear hg3 hU3
    have yhM := hM.two
    have lhM := hM.lt
    clear hU2 hb2 hw1 hw2
    obtain ⟨N, hN⟩ : ∃ N, N = goiNum L R := ⟨_, rfl⟩
    obtain ⟨X, hX⟩ : ∃ X, X = goiRows L R := ⟨_, rfl⟩
    obtain ⟨is, his⟩ : ∃ is, is = isModel L R := ⟨_, rfl⟩
    obtain ⟨x, hx⟩ : ∃ x, x = (deepPair L R).1 := ⟨_, rfl⟩
    obtain ⟨k, hk⟩ : ∃ k, k = (deepPair L R).2 := ⟨_, rfl⟩
    obtain ⟨st, hst⟩ : ∃ st, st = stabOf L R := ⟨_, rfl⟩
    obtain ⟨tx, htx⟩ : ∃ tx, tx = sb (fivs L R) := ⟨_, rfl⟩
    have hXl : X.length ≤ 7 := by rw [hX]; exact goiRows_len L R
    have hstl : st.length ≤ 127 := by rw [hst]; exact stabOf_len L R
    have HGimpl : ∀ w', RI w' A na L → RI w' C nc R → Calls Tryz.prog 7 #[.agg #[.slice A na ca, .slice C nc cc]] w' (GivesGB N X is w') := fun w' h1 h2 => by rw [hN, hX, his]; exact implGraphOfIntervals_any A C na nc ca cc L R w' h1 h2 (by omega) (by omega)
    have HDimpl : ∀ w', RI w' A na L → RI w' C nc R → Calls Tryz.prog 9 #[.agg #[.slice A na ca, .slice C nc cc]] w' (fun e w'' => e = .returned (.tuple #[.int .i64 x, .int .i64 k]) ∧ Below w'.heap.size w' w'') := fun w' h1 h2 => by rw [hx, hk]; exact implDeepestPoint_any A C na nc ca cc L R w' h1 h2 (by omega) (by omega)
    have HSimpl : ∀ w', RI w' A na L → RI w' C nc R → Calls Tryz.prog 11 #[.agg #[.slice A na ca, .slice C nc cc]] w' (GivesIB st is w') := fun w' h1 h2 => by rw [hst, his]; exact implStabbingPoints_any A C na nc ca cc L R w' h1 h2 (by omega) (by omega)
    have HFimpl : ∀ w', RI w' A na L → RI w' C nc R → Calls Tryz.prog 16 #[.agg #[.slice A na ca, .slice C nc cc]] w' (fun e w'' => e = .returned (.string tx) ∧ Below w'.heap.size w' w'') := fun w' h1 h2 => by rw [htx]; exact implFormatIntervals_any A C na nc ca cc L R w' h1 h2 (by omega) (by omega)
    have HGspec : ∀ w', RI w' A na L → RI w' C nc R → Calls Tryz.prog 8 #[.agg #[.slice A na ca, .slice C nc cc]] w' (GivesGB N X is w') := fun w' h1 h2 => by rw [hN, hX, his]; exact specGraphOfIntervals_any A C na nc ca cc L R w' h1 h2 (by omega) (by omega)
    have HDspec : ∀ w', RI w' A na L → RI w' C nc R → Calls Tryz.prog 10 #[.agg #[.slice A na ca, .slice C nc cc]] w' (fun e w'' => e = .returned (.tuple #[.int .i64 x, .int .i64 k]) ∧ Below w'.heap.size w' w'') := fun w' h1 h2 => by rw [hx, hk]; exact specDeepestPoint_any A C na nc ca cc L R w' h1 h2 (by omega) (by omega)
    have HSspec : ∀ w', RI w' A na L → RI w' C nc R → Calls Tryz.prog 12 #[.agg #[.slice A na ca, .slice C nc cc]] w' (GivesIB st is w') := fun w' h1 h2 => by rw [hst, his]; exact specStabbingPoints_any A C na nc ca cc L R w' h1 h2 (by omega) (by omega)
    have HFspec : ∀ w', RI w' A na L → RI w' C nc R → Calls Tryz.prog 17 #[.agg #[.slice A na ca, .slice C nc cc]] w' (fun e w'' => e = .returned (.string tx) ∧ Below w'.heap.size w' w'') := fun w' h1 h2 => by rw [htx]; exact specFormatIntervals_any A C na nc ca cc L R w' h1 h2 (by omega) (by omega)
    have HI : ∀ w', RI w' A na L → RI w' C nc R → Calls Tryz.prog 15 #[.agg #[.slice A na ca, .slice C nc cc]] w' (fun e w'' => e = .returned (.bool is) ∧ Below w'.heap.size w' w'') := fun w' h1 h2 => by rw [his]; exact implIsModel_any A C na nc ca cc L R w' h1 h2 (by omega) (by omega)
    have HFA := Lib.hid (show is = true → (ordOf N X).isSome = true ∧ ofGraph N X (-1) cliqueNumber = k ∧ (∃ s : Nat, s < 128 ∧ ofGraph N X 0 (largestOf indep) = (s : Int) ∧ card s = st.length) ∧ pointsCovered L R x < 128 ∧ ((card (pointsCovered L R x) : Nat) : Int) = k ∧ (isProperModel L R = true → (umbOf N X).isSome = true) from fun e => by
      rw [hN, hX, hk, hx, hst]
      exact models_facts (by rw [← his]; exact e))
    clear hN hX his hx hk hst htx
    go_wp2_with fail
    refine (HGimpl _ hA hC).mono ?_
    rintro e w4 ⟨A4, c4, rfl, hO4, hb4⟩
    have hU4 : Up w3 w4 := Up.then_ (by go_grown) hb4
    replace hB := hB.up hU4
    replace hA := hA.up hU4
    replace hC := hC.up hU4
    replace hM := hM.up hU4
    replace yhM := hM.two
    replace lhM := hM.lt
    have hw4 := Up.then_ hw3 hU4
    replace hO4 := hO4.ri
    have hU5 : Up w4 (w4.alloc (.cells #[.int .i64 N, .slice A4 X.length c4] 29)) := by go_grown
    have hG5 := Blk.new w4 29 #[.int .i64 N, .slice A4 X.length c4]
    have hw5 := Up.then_ hw4 hU5
    replace hA := hA.up hU5
    replace hC := hC.up hU5
    replace hB := hB.up hU5
    replace hM := hM.up hU5
    replace hO4 := hO4.up hU5
    obtain ⟨g5, hg5⟩ : ∃ g5, g5 = w4.heap.size := ⟨_, rfl⟩
    rw [← hg5] at hG5
    go_wp2_with fail
    rw [← hg5]
    generalize w4.alloc (.cells #[.int .i64 N, .slice A4 X.length c4] 29) = w5 at hG5 hA hC hB hM hO4 hw5 ⊢
    clear hg5 hU5
    have yhM := hM.two
    have lhM := hM.lt
    have yhG5 := hG5.two
    have lhG5 := hG5.lt
    clear hU4 hb4 hw3 hw4
    go_wp2_with fail
    refine (HGspec _ hA hC).mono ?_
    rintro e w6 ⟨A6, c6, rfl, hO6, hb6⟩
    have hU6 : Up w5 w6 := Up.then_ (by go_grown) hb6
    replace hB := hB.up hU6
    replace hA := hA.up hU6
    replace hC := hC.up hU6
    replace hM := hM.up hU6
    replace hG5 := hG5.up hU6
    replace hO4 := hO4.up hU6
    replace yhM := hM.two
    replace lhM := hM.lt
    replace yhG5 := hG5.two
    replace lhG5 := hG5.lt
    have hw6 := Up.then_ hw5 hU6
    replace hO6 := hO6.ri
    have hU7 : Up w6 (w6.alloc (.cells #[.int .i64 N, .slice A6 X.length c6] 29)) := by go_grown
    have hG7 := Blk.new w6 29 #[.int .i64 N, .slice A6 X.length c6]
    have hw7 := Up.then_ hw6 hU7
    replace hA := hA.up hU7
    replace hC := hC.up hU7
    replace hB := hB.up hU7
    replace hM := hM.up hU7
    replace hO4 := hO4.up hU7
    replace hG5 := hG5.up hU7
    replace hO6 := hO6.up hU7
    obtain ⟨g7, hg7⟩ : ∃ g7, g7 = w6.heap.size := ⟨_, rfl⟩
    rw [← hg7] at hG7
    go_wp2_with fail
    rw [← hg7]
    generalize w6.alloc (.cells #[.int .i64 N, .slice A6 X.length c6] 29) = w7 at hG7 hA hC hB hM hO4 hG5 hO6 hw7 ⊢
    clear hg7 hU7
    have yhM := hM.two
    have lhM := hM.lt
    have yhG5 := hG5.two
    have lhG5 := hG5.lt
    have yhG7 := hG7.two
    have lhG7 := hG7.lt
    clear hU6 hb6 hw5 hw6 HGimpl HGspec
    go_wp2_with fail
    refine (HDimpl _ hA hC).mono ?_
    rintro e w8 ⟨rfl, hb8⟩
    have hU8 : Up w7 w8 := Up.then_ (by go_grown) hb8
    replace hB := hB.up hU8
    replace hA := hA.up hU8
    replace hC := hC.up hU8
    replace hM := hM.up hU8
    replace hG5 := hG5.up hU8
    replace hO4 := hO4.up hU8
    replace hG7 := hG7.up hU8
    replace hO6 := hO6.up hU8
    replace yhM := hM.two
    replace lhM := hM.lt
    replace yhG5 := hG5.two
    replace lhG5 := hG5.lt
    replace yhG7 := hG7.two
    replace lhG7 := hG7.lt
    have hw8 := Up.then_ hw7 hU8
    go_wp2_with fail
    refine (HDspec _ hA hC).mono ?_
    rintro e w9 ⟨rfl, hb9⟩
    have hU9 : Up w8 w9 := Up.then_ (by go_grown) hb9
    replace hB := hB.up hU9
    replace hA := hA.up hU9
    replace hC := hC.up hU9
    replace hM := hM.up hU9
    replace hG5 := hG5.up hU9
    replace hO4 := hO4.up hU9
    replace hG7 := hG7.up hU9
    replace hO6 := hO6.up hU9
    replace yhM := hM.two
    replace lhM := hM.lt
    replace yhG5 := hG5.two
    replace lhG5 := hG5.lt
    replace yhG7 := hG7.two
    replace lhG7 := hG7.lt
    have hw9 := Up.then_ hw8 hU9
    go_wp2_with fail
    refine (HSimpl _ hA hC).mono ?_
    rintro e w10 ⟨A10, c10, rfl, hO10, hb10⟩
    have hU10 : Up w9 w10 := Up.then_ (by go_grown) hb10
    replace hB := hB.up hU10
    replace hA := hA.up hU10
    replace hC := hC.up hU10
    replace hM := hM.up hU10
    replace hG5 := hG5.up hU10
    replace hO4 := hO4.up hU10
    replace hG7 := hG7.up hU10
    replace hO6 := hO6.up hU10
    replace yhM := hM.two
    replace lhM := hM.lt
    replace yhG5 := hG5.two
    replace lhG5 := hG5.lt
    replace yhG7 := hG7.two
    replace lhG7 := hG7.lt
    have hw10 := Up.then_ hw9 hU10
    replace hO10 := hO10.ri
    replace yhM := hM.two
    replace lhM := hM.lt
    replace yhG5 := hG5.two
    replace lhG5 := hG5.lt
    replace yhG7 := hG7.two
    replace lhG7 := hG7.lt
    go_wp2_with fail
    refine (HSspec _ hA hC).mono ?_
    rintro e w11 ⟨A11, c11, rfl, hO11, hb11⟩
    have hU11 : Up w10 w11 := Up.then_ (by go_grown) hb11
    replace hB := hB.up hU11
    replace hA := hA.up hU11
    replace hC := hC.up hU11
    replace hM := hM.up hU11
    replace hG5 := hG5.up hU11
    replace hO4 := hO4.up hU11
    replace hG7 := hG7.up hU11
    replace hO6 := hO6.up hU11
    replace hO10 := hO10.up hU11
    replace yhM := hM.two
    replace lhM := hM.lt
    replace yhG5 := hG5.two
    replace lhG5 := hG5.lt
    replace yhG7 := hG7.two
    replace lhG7 := hG7.lt
    have hw11 := Up.then_ hw10 hU11
    replace hO11 := hO11.ri
    replace yhM := hM.two
    replace lhM := hM.lt
    replace yhG5 := hG5.two
    replace lhG5 := hG5.lt
    replace yhG7 := hG7.two
    replace lhG7 := hG7.lt
    clear HDimpl HDspec HSimpl HSspec hU8 hU9 hU10 hU11 hb8 hb9 hb10 hb11 hw7 hw8 hw9 hw10
    have hEQ : sameGraph N N X X = true := by rw [sameGraph_yes]; exact decide_eq_true rfl
    have HE : ∀ w', RI w' A4 X.length X → RI w' A6 X.length X → Calls Tryz.prog 13 #[.agg #[.int .i64 N, .slice A4 X.length c4], .agg #[.int .i64 N, .slice A6 X.length c6]] w' (fun e w'' => e = .returned (.bool true) ∧ Below w'.heap.size w' w'') := fun w' h1 h2 => by rw [← hEQ]; exact specEqualGraphs_any N N A4 A6 X.length X.length c4 c6 X X w' h1 h2 (by omega)
    clear hEQ
    go_wp2_with fail
    have hV0 : Up w11 w11.drew := (Up.refl _).drew
    refine wp_region_held_drew (S := (fun w' => Up w11 w' ∧ (∀ b o, b < w11.heap.size → w'.cell? ⟨b, o, none⟩ = w11.cell? ⟨b, o, none⟩))) (by kernel_rfl) (by exact ⟨hV0, fun _ _ hb => hV0.cell hb⟩) (fun hHeld => ?_)
    refine wpAnyH_take (i := 0) (v := ?_) rfl (by kernel_rfl) (by kernel_rfl) (by kernel_rfl) (fun _ _ _ h => h) (Or.inl ⟨by rfl, ?_⟩) (by assumption) ?_
    rotate_left
    · (intro w' hSw; go_simp; try with_reducible rfl)
    (try simp only [List.getElem_toArray]); (try simp only [List.getElem_cons_succ]); (try simp only [List.getElem_cons_zero]); (try simp only [Act.put]); (try simp only [List.setIfInBounds_toArray]); (try simp only [List.set_cons_succ]); (try simp only [List.set_cons_zero])
    refine wpAnyH_take (i := 1) (v := ?_) rfl (by kernel_rfl) (by kernel_rfl) (by kernel_rfl) (fun _ _ _ h => h) (Or.inl ⟨by rfl, ?_⟩) (by assumption) ?_
    rotate_left
    · (intro w' hSw; go_simp; try with_reducible rfl)
    (try simp only [List.getElem_toArray]); (try simp only [List.getElem_cons_succ]); (try simp only [List.getElem_cons_zero]); (try simp only [Act.put]); (try simp only [List.setIfInBounds_toArray]); (try simp only [List.set_cons_succ]); (try simp only [List.set_cons_zero])
    refine wpAnyH_take (i := 2) (v := ?_) rfl (by kernel_rfl) (by kernel_rfl) (by kernel_rfl) (fun _ _ _ h => h) (Or.inl ⟨by rfl, ?_⟩) (by assumption) ?_
    rotate_left
    · (intro w' hSw; go_simp; try with_reducible rfl)
    (try simp only [List.getElem_toArray]); (try simp only [List.getElem_cons_succ]); (try simp only [List.getElem_cons_zero]); (try simp only [Act.put]); (try simp only [List.setIfInBounds_toArray]); (try simp only [List.set_cons_succ]); (try simp only [List.set_cons_zero])
    refine wpAnyH_take (i := 3) (v := ?_) rfl (by kernel_rfl) (by kernel_rfl) (by kernel_rfl) (fun _ _ _ h => h) (Or.inl ⟨by rfl, ?_⟩) (by assumption) ?_
    rotate_left
    · (intro w' hSw; go_simp; try with_reducible rfl)
    (try simp only [List.getElem_toArray]); (try simp only [List.getElem_cons_succ]); (try simp only [List.getElem_cons_zero]); (try simp only [Act.put]); (try simp only [List.setIfInBounds_toArray]); (try simp only [List.set_cons_succ]); (try simp only [List.set_cons_zero])
    refine wpAnyH_take (i := 4) (v := ?_) rfl (by kernel_rfl) (by kernel_rfl) (by kernel_rfl) (fun _ _ _ h => h) (Or.inl ⟨by rfl, ?_⟩) (by assumption) ?_
    rotate_left
    · (intro w' hSw; go_simp; try with_reducible rfl)
    (try simp only [List.getElem_toArray]); (try simp only [List.getElem_cons_succ]); (try simp only [List.getElem_cons_zero]); (try simp only [Act.put]); (try simp only [List.setIfInBounds_toArray]); (try simp only [List.set_cons_succ]); (try simp only [List.set_cons_zero])
    refine wpAnyH_take (i := 5) (v := ?_) rfl (by kernel_rfl) (by kernel_rfl) (by kernel_rfl) (fun _ _ _ h => h) (Or.inl ⟨by rfl, ?_⟩) (by assumption) ?_
    rotate_left
    · (intro w' hSw; go_simp; try with_reducible rfl)
    (try simp only [List.getElem_toArray]); (try simp only [List.getElem_cons_succ]); (try simp only [List.getElem_cons_zero]); (try simp only [Act.put]); (try simp only [List.setIfInBounds_toArray]); (try simp only [List.set_cons_succ]); (try simp only [List.set_cons_zero])
    refine wpAnyH_ready (rs := [6]) (by kernel_rfl) (by simp) ?_
    refine AllReadyH.cons rfl (fun K hK => ?_) AllReadyH.nil
    go_simp
    go_at_call 13
    refine (HE _ (hO4.up hV0) (hO6.up hV0)).mono ?_
    rintro e w120 ⟨rfl, hb120⟩
    have hV1 := Up.then_ hV0 hb120
    go_wp2_with fail
    refine hK.out _ _ (by exact ⟨hV1, fun _ _ hb => hV1.cell hb⟩) (fun hHeld1 => ?_)
    clear hK K
    (try simp only [List.getElem_toArray]); (try simp only [List.getElem_cons_succ]); (try simp only [List.getElem_cons_zero]); (try simp only [Act.put]); (try simp only [List.setIfInBounds_toArray]); (try simp only [List.set_cons_succ]); (try simp only [List.set_cons_zero])
    refine wpAnyH_take (i := 7) (v := ?_) rfl (by kernel_rfl) (by kernel_rfl) (by kernel_rfl) (fun _ _ _ h => h) (Or.inl ⟨by rfl, ?_⟩) (by assumption) ?_
    rotate_left
    · (intro w' hSw; go_simp; try with_reducible rfl)
    (try simp only [List.getElem_toArray]); (try simp only [List.getElem_cons_succ]); (try simp only [List.getElem_cons_zero]); (try simp only [Act.put]); (try simp only [List.setIfInBounds_toArray]); (try simp only [List.set_cons_succ]); (try simp only [List.set_cons_zero])
    refine wpAnyH_take (i := 8) (v := ?_) rfl (by kernel_rfl) (by kernel_rfl) (by kernel_rfl) (fun _ _ _ h => h) (Or.inl ⟨by rfl, ?_⟩) (by assumption) ?_
    rotate_left
    · (intro w' hSw; go_simp; try with_reducible rfl)
    (try simp only [List.getElem_toArray]); (try simp only [List.getElem_cons_succ]); (try simp only [List.getElem_cons_zero]); (try simp only [Act.put]); (try simp only [List.setIfInBounds_toArray]); (try simp only [List.set_cons_succ]); (try simp only [List.set_cons_zero])
    refine wpAnyH_take (i := 9) (v := ?_) rfl (by kernel_rfl) (by kernel_rfl) (by kernel_rfl) (fun _ _ _ h => h) (Or.inl ⟨by rfl, ?_⟩) (by assumption) ?_
    rotate_left
    · (intro w' hSw; go_simp; try with_reducible rfl)
    (try simp only [List.getElem_toArray]); (try simp only [List.getElem_cons_succ]); (try simp only [List.getElem_cons_zero]); (try simp only [Act.put]); (try simp only [List.setIfInBounds_toArray]); (try simp only [List.set_cons_succ]); (try simp only [List.set_cons_zero])
    refine wpAnyH_take (i := 10) (v := ?_) rfl (by kernel_rfl) (by kernel_rfl) (by kernel_rfl) (fun _ _ _ h => h) (Or.inl ⟨by rfl, ?_⟩) (by assumption) ?_
    rotate_left
    · (intro w' hSw; go_simp; try with_reducible rfl)
    (try simp only [List.getElem_toArray]); (try simp only [List.getElem_cons_succ]); (try simp only [List.getElem_cons_zero]); (try simp only [Act.put]); (try simp only [List.setIfInBounds_toArray]); (try simp only [List.set_cons_succ]); (try simp only [List.set_cons_zero])
    refine wpAnyH_take (i := 11) (v := ?_) rfl (by kernel_rfl) (by kernel_rfl) (by kernel_rfl) (fun _ _ _ h => h) (Or.inl ⟨by rfl, ?_⟩) (by assumption) ?_
    rotate_left
    · (intro w' hSw; go_simp; try with_reducible rfl)
    (try simp only [List.getElem_toArray]); (try simp only [List.getElem_cons_succ]); (try simp only [List.getElem_cons_zero]); (try simp only [Act.put]); (try simp only [List.setIfInBounds_toArray]); (try simp only [List.set_cons_succ]); (try simp only [List.set_cons_zero])
    refine wpAnyH_take (i := 12) (v := ?_) rfl (by kernel_rfl) (by kernel_rfl) (by kernel_rfl) (fun _ _ _ h => h) (Or.inl ⟨by rfl, ?_⟩) (by assumption) ?_
    rotate_left
    · (intro w' hSw; go_simp; try with_reducible rfl)
    (try simp only [List.getElem_toArray]); (try simp only [List.getElem_cons_succ]); (try simp only [List.getElem_cons_zero]); (try simp only [Act.put]); (try simp only [List.setIfInBounds_toArray]); (try simp only [List.set_cons_succ]); (try simp only [List.set_cons_zero])
    refine wpAnyH_take (i := 13) (v := ?_) rfl (by kernel_rfl) (by kernel_rfl) (by kernel_rfl) (fun _ _ _ h => h) (Or.inl ⟨by rfl, ?_⟩) (by assumption) ?_
    rotate_left
    · (intro w' hSw; go_simp; try with_reducible rfl)
    (try simp only [List.getElem_toArray]); (try simp only [List.getElem_cons_succ]); (try simp only [List.getElem_cons_zero]); (try simp only [Act.put]); (try simp only [List.setIfInBounds_toArray]); (try simp only [List.set_cons_succ]); (try simp only [List.set_cons_zero])
    refine wpAnyH_take (i := 14) (v := ?_) rfl (by kernel_rfl) (by kernel_rfl) (by kernel_rfl) (fun _ _ _ h => h) (Or.inl ⟨by rfl, ?_⟩) (by assumption) ?_
    rotate_left
    · (intro w' hSw; go_simp; try with_reducible rfl)
    (try simp only [List.getElem_toArray]); (try simp only [List.getElem_cons_succ]); (try simp only [List.getElem_cons_zero]); (try simp only [Act.put]); (try simp only [List.setIfInBounds_toArray]); (try simp only [List.set_cons_succ]); (try simp only [List.set_cons_zero])
    refine wpAnyH_take (i := 15) (v := ?_) rfl (by kernel_rfl) (by kernel_rfl) (by kernel_rfl) (fun _ _ _ h => h) (Or.inl ⟨by rfl, ?_⟩) (by assumption) ?_
    rotate_left
    · (intro w' hSw; go_simp; try with_reducible rfl)
    (try simp only [List.getElem_toArray]); (try simp only [List.getElem_cons_succ]); (try simp only [List.getElem_cons_zero]); (try simp only [Act.put]); (try simp only [List.setIfInBounds_toArray]); (try simp only [List.set_cons_succ]); (try simp only [List.set_cons_zero])
    refine wpAnyH_take (i := 16) (v := ?_) rfl (by kernel_rfl) (by kernel_rfl) (by kernel_rfl) (fun _ _ _ h => h) (Or.inl ⟨by rfl, ?_⟩) (by assumption) ?_
    rotate_left
    · (intro w' hSw; go_simp; try with_reducible rfl)
    (try simp only [List.getElem_toArray]); (try simp only [List.getElem_cons_succ]); (try simp only [List.getElem_cons_zero]); (try simp only [Act.put]); (try simp only [List.setIfInBounds_toArray]); (try simp only [List.set_cons_succ]); (try simp only [List.set_cons_zero])
    refine wpAnyH_take (i := 17) (v := ?_) rfl (by kernel_rfl) (by kernel_rfl) (by kernel_rfl) (fun _ _ _ h => h) (Or.inl ⟨by rfl, ?_⟩) (by assumption) ?_
    rotate_left
    · (intro w' hSw; go_simp; try with_reducible rfl)
    (try simp only [List.getElem_toArray]); (try simp only [List.getElem_cons_succ]); (try simp only [List.getElem_cons_zero]); (try simp only [Act.put]); (try simp only [List.setIfInBounds_toArray]); (try simp only [List.set_cons_succ]); (try simp only [List.set_cons_zero])
    refine wpAnyH_take (i := 18) (v := ?_) rfl (by kernel_rfl) (by kernel_rfl) (by kernel_rfl) (fun _ _ _ h => h) (Or.inl ⟨by rfl, ?_⟩) (by assumption) ?_
    rotate_left
    · (intro w' hSw; go_simp; try with_reducible rfl)
    (try simp only [List.getElem_toArray]); (try simp only [List.getElem_cons_succ]); (try simp only [List.getElem_cons_zero]); (try simp only [Act.put]); (try simp only [List.setIfInBounds_toArray]); (try simp only [List.set_cons_succ]); (try simp only [List.set_cons_zero])
    refine wpAnyH_take (i := 19) (v := ?_) rfl (by kernel_rfl) (by kernel_rfl) (by kernel_rfl) (fun _ _ _ h => h) (Or.inl ⟨by rfl, ?_⟩) (by assumption) ?_
    rotate_left
    · (intro w' hSw; go_simp; try with_reducible rfl)
    (try simp only [List.getElem_toArray]); (try simp only [List.getElem_cons_succ]); (try simp only [List.getElem_cons_zero]); (try simp only [Act.put]); (try simp only [List.setIfInBounds_toArray]); (try simp only [List.set_cons_succ]); (try simp only [List.set_cons_zero])
    refine wpAnyH_take (i := 20) (v := ?_) rfl (by kernel_rfl) (by kernel_rfl) (by kernel_rfl) (fun _ _ _ h => h) (Or.inl ⟨by rfl, ?_⟩) (by assumption) ?_
    rotate_left
    · (intro w' hSw; go_simp; try with_reducible rfl)
    (try simp only [List.getElem_toArray]); (try simp only [List.getElem_cons_succ]); (try simp only [List.getElem_cons_zero]); (try simp only [Act.put]); (try simp only [List.setIfInBounds_toArray]); (try simp only [List.set_cons_succ]); (try simp only [List.set_cons_zero])
    refine wpAnyH_take (i := 21) (v := ?_) rfl (by kernel_rfl) (by kernel_rfl) (by kernel_rfl) (fun _ _ _ h => h) (Or.inl ⟨by rfl, ?_⟩) (by assumption) ?_
    rotate_left
    · (intro w' hSw; go_simp; try with_reducible rfl)
    (try simp only [List.getElem_toArray]); (try simp only [List.getElem_cons_succ]); (try simp only [List.getElem_cons_zero]); (try simp only [Act.put]); (try simp only [List.setIfInBounds_toArray]); (try simp only [List.set_cons_succ]); (try simp only [List.set_cons_zero])
    refine wpAnyH_take (i := 22) (v := ?_) rfl (by kernel_rfl) (by kernel_rfl) (by kernel_rfl) (fun _ _ _ h => h) (Or.inl ⟨by rfl, ?_⟩) (by assumption) ?_
    rotate_left
    · (intro w' hSw; go_simp; try with_reducible rfl)
    (try simp only [List.getElem_toArray]); (try simp only [List.getElem_cons_succ]); (try simp only [List.getElem_cons_zero]); (try simp only [Act.put]); (try simp only [List.setIfInBounds_toArray]); (try simp only [List.set_cons_succ]); (try simp only [List.set_cons_zero])
    refine wpAnyH_take (i := 23) (v := ?_) rfl (by kernel_rfl) (by kernel_rfl) (by kernel_rfl) (fun _ _ _ h => h) (Or.inl ⟨by rfl, ?_⟩) (by assumption) ?_
    rotate_left
    · (intro w' hSw; go_simp; try with_reducible rfl)
    (try simp only [List.getElem_toArray]); (try simp only [List.getElem_cons_succ]); (try simp only [List.getElem_cons_zero]); (try simp only [Act.put]); (try simp only [List.setIfInBounds_toArray]); (try simp only [List.set_cons_succ]); (try simp only [List.set_cons_zero])
    refine wpAnyH_take (i := 24) (v := ?_) rfl (by kernel_rfl) (by kernel_rfl) (by kernel_rfl) (fun _ _ _ h => h) (Or.inl ⟨by rfl, ?_⟩) (by assumption) ?_
    rotate_left
    · (intro w' hSw; go_simp; try with_reducible rfl)
    (try simp only [List.getElem_toArray]); (try simp only [List.getElem_cons_succ]); (try simp only [List.getElem_cons_zero]); (try simp only [Act.put]); (try simp only [List.setIfInBounds_toArray]); (try simp only [List.set_cons_succ]); (try simp only [List.set_cons_zero])
    refine wpAnyH_take (i := 25) (v := ?_) rfl (by kernel_rfl) (by kernel_rfl) (by kernel_rfl) (fun _ _ _ h => h) (Or.inl ⟨by rfl, ?_⟩) (by assumption) ?_
    rotate_left
    · (intro w' hSw; go_simp; try with_reducible rfl)
    (try simp only [List.getElem_toArray]); (try simp only [List.getElem_cons_succ]); (try simp only [List.getElem_cons_zero]); (try simp only [Act.put]); (try simp only [List.setIfInBounds_toArray]); (try simp only [List.set_cons_succ]); (try simp only [List.set_cons_zero])
    refine wpAnyH_take (i := 26) (v := ?_) rfl (by kernel_rfl) (by kernel_rfl) (by kernel_rfl) (fun _ _ _ h => h) (Or.inl ⟨by rfl, ?_⟩) (by assumption) ?_
    rotate_left
    · (intro w' hSw; go_simp; try with_reducible rfl)
    (try simp only [List.getElem_toArray]); (try simp only [List.getElem_cons_succ]); (try simp only [List.getElem_cons_zero]); (try simp only [Act.put]); (try simp only [List.setIfInBounds_toArray]); (try simp only [List.set_cons_succ]); (try simp only [List.set_cons_zero])
    refine wpAnyH_ready (rs := [27]) (by kernel_rfl) (by simp) ?_
    refine AllReadyH.cons rfl (fun K hK => ?_) AllReadyH.nil
    go_simp
    go_at_call 14
    refine (sameInts_up (hO10.up hV1) (hO11.up hV1) (by omega)).mono ?_
    rintro e w121 ⟨rfl, hb121⟩
    have hV2 := Up.then_ hV1 hb121
    go_wp2_with fail
    refine hK.out _ _ (by exact ⟨hV2, fun _ _ hb => hV2.cell hb⟩) (fun hHeld2 => ?_)
    clear hK K
    (try simp only [List.getElem_toArray]); (try simp only [List.getElem_cons_succ]); (try simp only [List.getElem_cons_zero]); (try simp only [Act.put]); (try simp only [List.setIfInBounds_toArray]); (try simp only [List.set_cons_succ]); (try simp only [List.set_cons_zero])
    refine wpAnyH_take (i := 28) (v := ?_) rfl (by kernel_rfl) (by kernel_rfl) (by kernel_rfl) (fun _ _ _ h => h) (Or.inl ⟨by rfl, ?_⟩) (by assumption) ?_
    rotate_left
    · (intro w' hSw; go_simp; try with_reducible rfl)
    (try simp only [List.getElem_toArray]); (try simp only [List.getElem_cons_succ]); (try simp only [List.getElem_cons_zero]); (try simp only [Act.put]); (try simp only [List.setIfInBounds_toArray]); (try simp only [List.set_cons_succ]); (try simp only [List.set_cons_zero])
    refine wpAnyH_take (i := 29) (v := ?_) rfl (by kernel_rfl) (by kernel_rfl) (by kernel_rfl) (fun _ _ _ h => h) (Or.inl ⟨by rfl, ?_⟩) (by assumption) ?_
    rotate_left
    · (intro w' hSw; go_simp; try with_reducible rfl)
    (try simp only [List.getElem_toArray]); (try simp only [List.getElem_cons_succ]); (try simp only [List.getElem_cons_zero]); (try simp only [Act.put]); (try simp only [List.setIfInBounds_toArray]); (try simp only [List.set_cons_succ]); (try simp only [List.set_cons_zero])
    refine wpAnyH_take (i := 30) (v := ?_) rfl (by kernel_rfl) (by kernel_rfl) (by kernel_rfl) (fun _ _ _ h => h) (Or.inl ⟨by rfl, ?_⟩) (by assumption) ?_
    rotate_left
    · (intro w' hSw; go_simp; try with_reducible rfl)
    (try simp only [List.getElem_toArray]); (try simp only [List.getElem_cons_succ]); (try simp only [List.getElem_cons_zero]); (try simp only [Act.put]); (try simp only [List.setIfInBounds_toArray]); (try simp only [List.set_cons_succ]); (try simp only [List.set_cons_zero])
    refine wpAnyH_take (i := 31) (v := ?_) rfl (by kernel_rfl) (by kernel_rfl) (by kernel_rfl) (fun _ _ _ h => h) (Or.inl ⟨by rfl, ?_⟩) (by assumption) ?_
    rotate_left
    · (intro w' hSw; go_simp; try with_reducible rfl)
    (try simp only [List.getElem_toArray]); (try simp only [List.getElem_cons_succ]); (try simp only [List.getElem_cons_zero]); (try simp only [Act.put]); (try simp only [List.setIfInBounds_toArray]); (try simp only [List.set_cons_succ]); (try simp only [List.set_cons_zero])
    refine wpAnyH_take (i := 33) (v := ?_) rfl (by kernel_rfl) (by kernel_rfl) (by kernel_rfl) (fun _ _ _ h => h) (Or.inl ⟨by rfl, ?_⟩) (by assumption) ?_
    rotate_left
    · (intro w' hSw; go_simp; try with_reducible rfl)
    (try simp only [List.getElem_toArray]); (try simp only [List.getElem_cons_succ]); (try simp only [List.getElem_cons_zero]); (try simp only [Act.put]); (try simp only [List.setIfInBounds_toArray]); (try simp only [List.set_cons_succ]); (try simp only [List.set_cons_zero])
    refine wpAnyH_ready (rs := [32]) (by kernel_rfl) (by simp) ?_
    refine AllReadyH.cons rfl (fun K hK => ?_) AllReadyH.nil
    go_simp
    go_at_call 15
    refine (HI _ (hA.up hV2) (hC.up hV2)).mono ?_
    rintro e w122 ⟨rfl, hb122⟩
    have hV3 := Up.then_ hV2 hb122
    go_wp2_with fail
    refine hK.out _ _ (by exact ⟨hV3, fun _ _ hb => hV3.cell hb⟩) (fun hHeld3 => ?_)
    clear hK K
    (try simp only [List.getElem_toArray]); (try simp only [List.getElem_cons_succ]); (try simp only [List.getElem_cons_zero]); (try simp only [Act.put]); (try simp only [List.setIfInBounds_toArray]); (try simp only [List.set_cons_succ]); (try simp only [List.set_cons_zero])
    refine wpAnyH_take (i := 34) (v := ?_) rfl (by kernel_rfl) (by kernel_rfl) (by kernel_rfl) (fun _ _ _ h => h) (Or.inl ⟨by rfl, ?_⟩) (by assumption) ?_
    rotate_left
    · (intro w' hSw; go_simp; try with_reducible rfl)
    (try simp only [List.getElem_toArray]); (try simp only [List.getElem_cons_succ]); (try simp only [List.getElem_cons_zero]); (try simp only [Act.put]); (try simp only [List.setIfInBounds_toArray]); (try simp only [List.set_cons_succ]); (try simp only [List.set_cons_zero])
    refine wpAnyH_take (i := 35) (v := ?_) rfl (by kernel_rfl) (by kernel_rfl) (by kernel_rfl) (fun _ _ _ h => h) (Or.inl ⟨by rfl, ?_⟩) (by assumption) ?_
    rotate_left
    · (intro w' hSw; go_simp; try with_reducible rfl)
    (try simp only [List.getElem_toArray]); (try simp only [List.getElem_cons_succ]); (try simp only [List.getElem_cons_zero]); (try simp only [Act.put]); (try simp only [List.setIfInBounds_toArray]); (try simp only [List.set_cons_succ]); (try simp only [List.set_cons_zero])
    refine wpAnyH_take (i := 36) (v := ?_) rfl (by kernel_rfl) (by kernel_rfl) (by kernel_rfl) (fun _ _ _ h => h) (Or.inl ⟨by rfl, ?_⟩) (by assumption) ?_
    rotate_left
    · (intro w' hSw; go_simp; try with_reducible rfl)
    (try simp only [List.getElem_toArray]); (try simp only [List.getElem_cons_succ]); (try simp only [List.getElem_cons_zero]); (try simp only [Act.put]); (try simp only [List.setIfInBounds_toArray]); (try simp only [List.set_cons_succ]); (try simp only [List.set_cons_zero])
    refine wpAnyH_take (i := 37) (v := ?_) rfl (by kernel_rfl) (by kernel_rfl) (by kernel_rfl) (fun _ _ _ h => h) (Or.inl ⟨by rfl, ?_⟩) (by assumption) ?_
    rotate_left
    · (intro w' hSw; go_simp; try with_reducible rfl)
    (try simp only [List.getElem_toArray]); (try simp only [List.getElem_cons_succ]); (try simp only [List.getElem_cons_zero]); (try simp only [Act.put]); (try simp only [List.setIfInBounds_toArray]); (try simp only [List.set_cons_succ]); (try simp only [List.set_cons_zero])
    refine wpAnyH_take (i := 39) (v := ?_) rfl (by kernel_rfl) (by kernel_rfl) (by kernel_rfl) (fun _ _ _ h => h) (Or.inl ⟨by rfl, ?_⟩) (by assumption) ?_
    rotate_left
    · (intro w' hSw; go_simp; try with_reducible rfl)
    (try simp only [List.getElem_toArray]); (try simp only [List.getElem_cons_succ]); (try simp only [List.getElem_cons_zero]); (try simp only [Act.put]); (try simp only [List.setIfInBounds_toArray]); (try simp only [List.set_cons_succ]); (try simp only [List.set_cons_zero])
    refine wpAnyH_ready (rs := [38]) (by kernel_rfl) (by simp) ?_
    refine AllReadyH.cons rfl (fun K hK => ?_) AllReadyH.nil
    go_simp
    go_at_call 16
    refine (HFimpl _ (hA.up hV3) (hC.up hV3)).mono ?_
    rintro e w123 ⟨rfl, hb123⟩
    have hV4 := Up.then_ hV3 hb123
    go_wp2_with fail
    refine hK.out _ _ (by exact ⟨hV4, fun _ _ hb => hV4.cell hb⟩) (fun hHeld4 => ?_)
    clear hK K
    (try simp only [List.getElem_toArray]); (try simp only [List.getElem_cons_succ]); (try simp only [List.getElem_cons_zero]); (try simp only [Act.put]); (try simp only [List.setIfInBounds_toArray]); (try simp only [List.set_cons_succ]); (try simp only [List.set_cons_zero])
    refine wpAnyH_ready (rs := [40]) (by kernel_rfl) (by simp) ?_
    refine AllReadyH.cons rfl (fun K hK => ?_) AllReadyH.nil
    go_simp
    go_at_call 17
    refine (HFspec _ (hA.up hV4) (hC.up hV4)).mono ?_
    rintro e w124 ⟨rfl, hb124⟩
    have hV5 := Up.then_ hV4 hb124
    go_wp2_with fail
    refine hK.out _ _ (by exact ⟨hV5, fun _ _ hb => hV5.cell hb⟩) (fun hHeld5 => ?_)
    clear hK K
    (try simp only [List.getElem_toArray]); (try simp only [List.getElem_cons_succ]); (try simp only [List.getElem_cons_zero]); (try simp only [Act.put]); (try simp only [List.setIfInBounds_toArray]); (try simp only [List.set_cons_succ]); (try simp only [List.set_cons_zero])
    refine wpAnyH_take (i := 41) (v := ?_) rfl (by kernel_rfl) (by kernel_rfl) (by kernel_rfl) (fun _ _ _ h => h) (Or.inl ⟨by rfl, ?_⟩) (by assumption) ?_
    rotate_left
    · (intro w' hSw; go_simp; try with_reducible rfl)
    (try simp only [List.getElem_toArray]); (try simp only [List.getElem_cons_succ]); (try simp only [List.getElem_cons_zero]); (try simp only [Act.put]); (try simp only [List.setIfInBounds_toArray]); (try simp only [List.set_cons_succ]); (try simp only [List.set_cons_zero])
    refine wpAnyH_take (i := 42) (v := ?_) rfl (by kernel_rfl) (by kernel_rfl) (by kernel_rfl) (fun _ _ _ h => h) (Or.inl ⟨by rfl, ?_⟩) (by assumption) ?_
    rotate_left
    · (intro w' hSw; go_simp; try with_reducible rfl)
    (try simp only [List.getElem_toArray]); (try simp only [List.getElem_cons_succ]); (try simp only [List.getElem_cons_zero]); (try simp only [Act.put]); (try simp only [List.setIfInBounds_toArray]); (try simp only [List.set_cons_succ]); (try simp only [List.set_cons_zero])
    refine wpAnyH_done (by kernel_rfl) ?_ _
    have hU12 := hV5
    replace hB := hB.up hU12
    replace hA := hA.up hU12
    replace hC := hC.up hU12
    replace hM := hM.up hU12
    replace hG5 := hG5.up hU12
    replace hO4 := hO4.up hU12
    replace hG7 := hG7.up hU12
    replace hO6 := hO6.up hU12
    replace hO10 := hO10.up hU12
    replace hO11 := hO11.up hU12
    replace yhM := hM.two
    replace lhM := hM.lt
    replace yhG5 := hG5.two
    replace lhG5 := hG5.lt
    replace yhG7 := hG7.two
    replace lhG7 := hG7.lt
    have hw12 := Up.then_ hw11 hU12
    clear hV0 hV1 hV2 hV3 hV4 hb120 hb121 hb122 hb123 hb124 hHeld hHeld1 hHeld2 hHeld3 hHeld4 hHeld5 hO10 hO4 hG5 yhG5 lhG5 hU12 hw11 HI HE HFimpl HFspec
    cases is
    · clear HFA hO11 hO6 hG7 yhG7 lhG7
      clear hA hC hM yhM lhM
      have hlowT : ∀ ad, B = some ad → ad.block < w124.heap.size := fun ad e => by have := hlow ad e; have := hw12.size; omega
      go_wp2_with fail
      refine (drawIsUnitModel_any B n c bs _ hB hs hlowT).mono ?_
      rintro e w30 ⟨A2, na2, ca2, C2, nc2, cc2, L2, R2, z2, rfl, hA2, hC2, hna2, hnc2, hb30⟩
      have hU30 : Up w124 w30 := Up.then_ (by go_grown) hb30
      replace hB := hB.up hU30
      have hw30 := Up.then_ hw12 hU30
      replace hA2 := hA2.1
      replace hC2 := hC2.1
      have hU31 : Up w30 (w30.alloc (.cells #[.slice A2 na2 ca2, .slice C2 nc2 cc2] 26)) := by go_grown
      have hM2 := Blk.new w30 26 #[.slice A2 na2 ca2, .slice C2 nc2 cc2]
      have hw31 := Up.then_ hw30 hU31
      replace hA2 := hA2.up hU31
      replace hC2 := hC2.up hU31
      replace hB := hB.up hU31
      obtain ⟨g31, hg31⟩ : ∃ g31, g31 = w30.heap.size := ⟨_, rfl⟩
      rw [← hg31] at hM2
      go_wp2_with fail
      rw [← hg31]
      generalize w30.alloc (.cells #[.slice A2 na2 ca2, .slice C2 nc2 cc2] 26) = w31 at hM2 hA2 hC2 hB hw31 ⊢
      have hlow31 : ∀ ad, B = some ad → ad.block < w31.heap.size := fun ad e => by have := hlow ad e; have := hw31.size; omega
      clear hg31 hU31
      refine (drawIsProperModel_any B n c bs _ hB hs hlow31).mono ?_
      rintro e w32 ⟨A3, na3, ca3, C3, nc3, cc3, L3, R3, rfl, hA3, hC3, hna3, hnc3, hb32⟩
      have hU32 : Up w31 w32 := hb32
      replace hB := hB.up hU32
      replace hA2 := hA2.up hU32
      replace hC2 := hC2.up hU32
      replace hM2 := hM2.up hU32
      have hw32 := Up.then_ hw31 hU32
      replace hA3 := hA3.1
      replace hC3 := hC3.1
      have hU33 : Up w32 (w32.alloc (.cells #[.slice A3 na3 ca3, .slice C3 nc3 cc3] 26)) := by go_grown
      have hM3 := Blk.new w32 26 #[.slice A3 na3 ca3, .slice C3 nc3 cc3]
      have hw33 := Up.then_ hw32 hU33
      replace hA2 := hA2.up hU33
      replace hC2 := hC2.up hU33
      replace hB := hB.up hU33
      replace hM2 := hM2.up hU33
      replace hA3 := hA3.up hU33
      replace hC3 := hC3.up hU33
      obtain ⟨g33, hg33⟩ : ∃ g33, g33 = w32.heap.size := ⟨_, rfl⟩
      rw [← hg33] at hM3
      go_wp2_with fail
      rw [← hg33]
      generalize w32.alloc (.cells #[.slice A3 na3 ca3, .slice C3 nc3 cc3] 26) = w33 at hM3 hA2 hC2 hB hM2 hA3 hC3 hw33 ⊢
      have hlow33 : ∀ ad, B = some ad → ad.block < w33.heap.size := fun ad e => by have := hlow ad e; have := hw33.size; omega
      clear hg33 hU33
      refine (drawPointsCovered_any B n c bs _ hB hs hlow33).mono ?_
      rintro e w34 ⟨A4, na4, ca4, C4, nc4, cc4, L4, R4, z4, rfl, hA4, hC4, hna4, hnc4, hb34⟩
      have hU34 : Up w33 w34 := hb34
      replace hB := hB.up hU34
      replace hA2 := hA2.up hU34
      replace hC2 := hC2.up hU34
      replace hM2 := hM2.up hU34
      replace hA3 := hA3.up hU34
      replace hC3 := hC3.up hU34
      replace hM3 := hM3.up hU34
      have hw34 := Up.then_ hw33 hU34
      replace hA4 := hA4.1
      replace hC4 := hC4.1
      clear hB hlowT hlow31 hlow33
      have hU35 : Up w34 (w34.alloc (.cells #[.slice A4 na4 ca4, .slice C4 nc4 cc4] 26)) := by go_grown
      have hM4 := Blk.new w34 26 #[.slice A4 na4 ca4, .slice C4 nc4 cc4]
      have hw35 := Up.then_ hw34 hU35
      replace hA2 := hA2.up hU35
      replace hC2 := hC2.up hU35
      replace hM2 := hM2.up hU35
      replace hA3 := hA3.up hU35
      replace hC3 := hC3.up hU35
      replace hM3 := hM3.up hU35
      replace hA4 := hA4.up hU35
      replace hC4 := hC4.up hU35
      obtain ⟨g35, hg35⟩ : ∃ g35, g35 = w34.heap.size := ⟨_, rfl⟩
      rw [← hg35] at hM4
      go_wp2_with fail
      rw [← hg35]
      generalize w34.alloc (.cells #[.slice A4 na4 ca4, .slice C4 nc4 cc4] 26) = w35 at hM4 hA2 hC2 hM2 hA3 hC3 hM3 hA4 hC4 hw35 ⊢
      clear hg35 hU35
      have yhM2 := hM2.two
      have lhM2 := hM2.lt
      have yhM3 := hM3.two
      have lhM3 := hM3.lt
      have yhM4 := hM4.two
      have lhM4 := hM4.lt
      clear hw30 hw31 hw32 hw33 hw34 hU30 hU32 hU34 hb30 hb32 hb34
      have hV0 : Up w35 w35.drew := (Up.refl _).drew
      refine wp_region_held_drew (S := (fun w' => Up w35 w' ∧ (∀ b o, b < w35.heap.size → w'.cell? ⟨b, o, none⟩ = w35.cell? ⟨b, o, none⟩))) (by kernel_rfl) (by exact ⟨hV0, fun _ _ hb => hV0.cell hb⟩) (fun hHeld => ?_)
      refine wpAnyH_take (i := 0) (v := ?_) rfl (by kernel_rfl) (by kernel_rfl) (by kernel_rfl) (fun _ _ _ h => h) (Or.inl ⟨by rfl, ?_⟩) (by assumption) ?_
      rotate_left
      · (intro w' hSw; go_simp; try with_reducible rfl)
      (try simp only [List.getElem_toArray]); (try simp only [List.getElem_cons_succ]); (try simp only [List.getElem_cons_zero]); (try simp only [Act.put]); (try simp only [List.setIfInBounds_toArray]); (try simp only [List.set_cons_succ]); (try simp only [List.set_cons_zero])
      refine wpAnyH_take (i := 1) (v := ?_) rfl (by kernel_rfl) (by kernel_rfl) (by kernel_rfl) (fun _ _ _ h => h) (Or.inl ⟨by rfl, ?_⟩) (by assumption) ?_
      rotate_left
      · (intro w' hSw; go_simp; try with_reducible rfl)
      (try simp only [List.getElem_toArray]); (try simp only [List.getElem_cons_succ]); (try simp only [List.getElem_cons_zero]); (try simp only [Act.put]); (try simp only [List.setIfInBounds_toArray]); (try simp only [List.set_cons_succ]); (try simp only [List.set_cons_zero])
      refine wpAnyH_take (i := 3) (v := ?_) rfl (by kernel_rfl) (by kernel_rfl) (by kernel_rfl) (fun _ _ _ h => h) (Or.inl ⟨by rfl, ?_⟩) (by assumption) ?_
      rotate_left
      · (intro w' hSw; go_simp; try with_reducible rfl)
      (try simp only [List.getElem_toArray]); (try simp only [List.getElem_cons_succ]); (try simp only [List.getElem_cons_zero]); (try simp only [Act.put]); (try simp only [List.setIfInBounds_toArray]); (try simp only [List.set_cons_succ]); (try simp only [List.set_cons_zero])
      refine wpAnyH_take (i := 4) (v := ?_) rfl (by kernel_rfl) (by kernel_rfl) (by kernel_rfl) (fun _ _ _ h => h) (Or.inl ⟨by rfl, ?_⟩) (by assumption) ?_
      rotate_left
      · (intro w' hSw; go_simp; try with_reducible rfl)
      (try simp only [List.getElem_toArray]); (try simp only [List.getElem_cons_succ]); (try simp only [List.getElem_cons_zero]); (try simp only [Act.put]); (try simp only [List.setIfInBounds_toArray]); (try simp only [List.set_cons_succ]); (try simp only [List.set_cons_zero])
      refine wpAnyH_ready (rs := [2]) (by kernel_rfl) (by simp) ?_
      refine AllReadyH.cons rfl (fun K hK => ?_) AllReadyH.nil
      go_simp
      go_at_call 28
      refine (implIsUnitModel_any A2 C2 na2 nc2 ca2 cc2 L2 R2 z2 _ (hA2.up hV0) (hC2.up hV0) (by omega) (by omega)).mono ?_
      rintro e w400 ⟨rfl, hb400⟩
      have hV1 := Up.then_ hV0 hb400
      go_wp2_with fail
      refine hK.out _ _ (by exact ⟨hV1, fun _ _ hb => hV1.cell hb⟩) (fun hHeld1 => ?_)
      clear hK K
      (try simp only [List.getElem_toArray]); (try simp only [List.getElem_cons_succ]); (try simp only [List.getElem_cons_zero]); (try simp only [Act.put]); (try simp only [List.setIfInBounds_toArray]); (try simp only [List.set_cons_succ]); (try simp only [List.set_cons_zero])
      refine wpAnyH_ready (rs := [5]) (by kernel_rfl) (by simp) ?_
      refine AllReadyH.cons rfl (fun K hK => ?_) AllReadyH.nil
      go_simp
      go_at_call 29
      refine (specIsUnitModel_any A2 C2 na2 nc2 ca2 cc2 L2 R2 z2 _ (hA2.up hV1) (hC2.up hV1) (by omega) (by omega)).mono ?_
      rintro e w401 ⟨rfl, hb401⟩
      have hV2 := Up.then_ hV1 hb401
      go_wp2_with fail
      refine hK.out _ _ (by exact ⟨hV2, fun _ _ hb => hV2.cell hb⟩) (fun hHeld2 => ?_)
      clear hK K
      (try simp only [List.getElem_toArray]); (try simp only [List.getElem_cons_succ]); (try simp only [List.getElem_cons_zero]); (try simp only [Act.put]); (try simp only [List.setIfInBounds_toArray]); (try simp only [List.set_cons_succ]); (try simp only [List.set_cons_zero])
      refine wpAnyH_take (i := 6) (v := ?_) rfl (by kernel_rfl) (by kernel_rfl) (by kernel_rfl) (fun _ _ _ h => h) (Or.inl ⟨by rfl, ?_⟩) (by assumption) ?_
      rotate_left
      · (intro w' hSw; go_simp; try with_reducible rfl)
      (try simp only [List.getElem_toArray]); (try simp only [List.getElem_cons_succ]); (try simp only [List.getElem_cons_zero]); (try simp only [Act.put]); (try simp only [List.setIfInBounds_toArray]); (try simp only [List.set_cons_succ]); (try simp only [List.set_cons_zero])
      refine wpAnyH_take (i := 7) (v := ?_) rfl (by kernel_rfl) (by kernel_rfl) (by kernel_rfl) (fun _ _ _ h => h) (Or.inl ⟨by rfl, ?_⟩) (by assumption) ?_
      rotate_left
      · (intro w' hSw; go_simp; try with_reducible rfl)
      (try simp only [List.getElem_toArray]); (try simp only [List.getElem_cons_succ]); (try simp only [List.getElem_cons_zero]); (try simp only [Act.put]); (try simp only [List.setIfInBounds_toArray]); (try simp only [List.set_cons_succ]); (try simp only [List.set_cons_zero])
      refine wpAnyH_take (i := 8) (v := ?_) rfl (by kernel_rfl) (by kernel_rfl) (by kernel_rfl) (fun _ _ _ h => h) (Or.inl ⟨by rfl, ?_⟩) (by assumption) ?_
      rotate_left
      · (intro w' hSw; go_simp; try with_reducible rfl)
      (try simp only [List.getElem_toArray]); (try simp only [List.getElem_cons_succ]); (try simp only [List.getElem_cons_zero]); (try simp only [Act.put]); (try simp only [List.setIfInBounds_toArray]); (try simp only [List.set_cons_succ]); (try simp only [List.set_cons_zero])
      refine wpAnyH_take (i := 10) (v := ?_) rfl (by kernel_rfl) (by kernel_rfl) (by kernel_rfl) (fun _ _ _ h => h) (Or.inl ⟨by rfl, ?_⟩) (by assumption) ?_
      rotate_left
      · (intro w' hSw; go_simp; try with_reducible rfl)
      (try simp only [List.getElem_toArray]); (try simp only [List.getElem_cons_succ]); (try simp only [List.getElem_cons_zero]); (try simp only [Act.put]); (try simp only [List.setIfInBounds_toArray]); (try simp only [List.set_cons_succ]); (try simp only [List.set_cons_zero])
      refine wpAnyH_ready (rs := [9]) (by kernel_rfl) (by simp) ?_
      refine AllReadyH.cons rfl (fun K hK => ?_) AllReadyH.nil
      go_simp
      go_at_call 23
      refine (implIsProperModel_any A3 C3 na3 nc3 ca3 cc3 L3 R3 _ (hA3.up hV2) (hC3.up hV2) (by omega) (by omega)).mono ?_
      rintro e w402 ⟨rfl, hb402⟩
      have hV3 := Up.then_ hV2 hb402
      go_wp2_with fail
      refine hK.out _ _ (by exact ⟨hV3, fun _ _ hb => hV3.cell hb⟩) (fun hHeld3 => ?_)
      clear hK K
      (try simp only [List.getElem_toArray]); (try simp only [List.getElem_cons_succ]); (try simp only [List.getElem_cons_zero]); (try simp only [Act.put]); (try simp only [List.setIfInBounds_toArray]); (try simp only [List.set_cons_succ]); (try simp only [List.set_cons_zero])
      refine wpAnyH_ready (rs := [11]) (by kernel_rfl) (by simp) ?_
      refine AllReadyH.cons rfl (fun K hK => ?_) AllReadyH.nil
      go_simp
      go_at_call 30
      refine (specIsProperModel_any A3 C3 na3 nc3 ca3 cc3 L3 R3 _ (hA3.up hV3) (hC3.up hV3) (by omega) (by omega)).mono ?_
      rintro e w403 ⟨rfl, hb403⟩
      have hV4 := Up.then_ hV3 hb403
      go_wp2_with fail
      refine hK.out _ _ (by exact ⟨hV4, fun _ _ hb => hV4.cell hb⟩) (fun hHeld4 => ?_)
      clear hK K
      (try simp only [List.getElem_toArray]); (try simp only [List.getElem_cons_succ]); (try simp only [List.getElem_cons_zero]); (try simp only [Act.put]); (try simp only [List.setIfInBounds_toArray]); (try simp only [List.set_cons_succ]); (try simp only [List.set_cons_zero])
      refine wpAnyH_take (i := 12) (v := ?_) rfl (by kernel_rfl) (by kernel_rfl) (by kernel_rfl) (fun _ _ _ h => h) (Or.inl ⟨by rfl, ?_⟩) (by assumption) ?_
      rotate_left
      · (intro w' hSw; go_simp; try with_reducible rfl)
      (try simp only [List.getElem_toArray]); (try simp only [List.getElem_cons_succ]); (try simp only [List.getElem_cons_zero]); (try simp only [Act.put]); (try simp only [List.setIfInBounds_toArray]); (try simp only [List.set_cons_succ]); (try simp only [List.set_cons_zero])
      refine wpAnyH_take (i := 13) (v := ?_) rfl (by kernel_rfl) (by kernel_rfl) (by kernel_rfl) (fun _ _ _ h => h) (Or.inl ⟨by rfl, ?_⟩) (by assumption) ?_
      rotate_left
      · (intro w' hSw; go_simp; try with_reducible rfl)
      (try simp only [List.getElem_toArray]); (try simp only [List.getElem_cons_succ]); (try simp only [List.getElem_cons_zero]); (try simp only [Act.put]); (try simp only [List.setIfInBounds_toArray]); (try simp only [List.set_cons_succ]); (try simp only [List.set_cons_zero])
      refine wpAnyH_take (i := 14) (v := ?_) rfl (by kernel_rfl) (by kernel_rfl) (by kernel_rfl) (fun _ _ _ h => h) (Or.inl ⟨by rfl, ?_⟩) (by assumption) ?_
      rotate_left
      · (intro w' hSw; go_simp; try with_reducible rfl)
      (try simp only [List.getElem_toArray]); (try simp only [List.getElem_cons_succ]); (try simp only [List.getElem_cons_zero]); (try simp only [Act.put]); (try simp only [List.setIfInBounds_toArray]); (try simp only [List.set_cons_succ]); (try simp only [List.set_cons_zero])
      refine wpAnyH_take (i := 15) (v := ?_) rfl (by kernel_rfl) (by kernel_rfl) (by kernel_rfl) (fun _ _ _ h => h) (Or.inl ⟨by rfl, ?_⟩) (by assumption) ?_
      rotate_left
      · (intro w' hSw; go_simp; try with_reducible rfl)
      (try simp only [List.getElem_toArray]); (try simp only [List.getElem_cons_succ]); (try simp only [List.getElem_cons_zero]); (try simp only [Act.put]); (try simp only [List.setIfInBounds_toArray]); (try simp only [List.set_cons_succ]); (try simp only [List.set_cons_zero])
      refine wpAnyH_take (i := 16) (v := ?_) rfl (by kernel_rfl) (by kernel_rfl) (by kernel_rfl) (fun _ _ _ h => h) (Or.inl ⟨by rfl, ?_⟩) (by assumption) ?_
      rotate_left
      · (intro w' hSw; go_simp; try with_reducible rfl)
      (try simp only [List.getElem_toArray]); (try simp only [List.getElem_cons_succ]); (try simp only [List.getElem_cons_zero]); (try simp only [Act.put]); (try simp only [List.setIfInBounds_toArray]); (try simp only [List.set_cons_succ]); (try simp only [List.set_cons_zero])
      refine wpAnyH_take (i := 18) (v := ?_) rfl (by kernel_rfl) (by kernel_rfl) (by kernel_rfl) (fun _ _ _ h => h) (Or.inl ⟨by rfl, ?_⟩) (by assumption) ?_
      rotate_left
      · (intro w' hSw; go_simp; try with_reducible rfl)
      (try simp only [List.getElem_toArray]); (try simp only [List.getElem_cons_succ]); (try simp only [List.getElem_cons_zero]); (try simp only [Act.put]); (try simp only [List.setIfInBounds_toArray]); (try simp only [List.set_cons_succ]); (try simp only [List.set_cons_zero])
      refine wpAnyH_take (i := 19) (v := ?_) rfl (by kernel_rfl) (by kernel_rfl) (by kernel_rfl) (fun _ _ _ h => h) (Or.inl ⟨by rfl, ?_⟩) (by assumption) ?_
      rotate_left
      · (intro w' hSw; go_simp; try with_reducible rfl)
      (try simp only [List.getElem_toArray]); (try simp only [List.getElem_cons_succ]); (try simp only [List.getElem_cons_zero]); (try simp only [Act.put]); (try simp only [List.setIfInBounds_toArray]); (try simp only [List.set_cons_succ]); (try simp only [List.set_cons_zero])
      refine wpAnyH_ready (rs := [17]) (by kernel_rfl) (by simp) ?_
      refine AllReadyH.cons rfl (fun K hK => ?_) AllReadyH.nil
      go_simp
      go_at_call 22
      refine (implPointsCovered_any A4 C4 na4 nc4 ca4 cc4 L4 R4 z4 _ (hA4.up hV4) (hC4.up hV4) (by omega) (by omega)).mono ?_
      rintro e w404 ⟨rfl, hb404⟩
      have hV5 := Up.then_ hV4 hb404
      go_wp2_with fail
      refine hK.out _ _ (by exact ⟨hV5, fun _ _ hb => hV5.cell hb⟩) (fun hHeld5 => ?_)
      clear hK K
      (try simp only [List.getElem_toArray]); (try simp only [List.getElem_cons_succ]); (try simp only [List.getElem_cons_zero]); (try simp only [Act.put]); (try simp only [List.setIfInBounds_toArray]); (try simp only [List.set_cons_succ]); (try simp only [List.set_cons_zero])
      refine wpAnyH_ready (rs := [20]) (by kernel_rfl) (by simp) ?_
      refine AllReadyH.cons rfl (fun K hK => ?_) AllReadyH.nil
      go_simp
      go_at_call 31
      refine (specPointsCovered_any A4 C4 na4 nc4 ca4 cc4 L4 R4 z4 _ (hA4.up hV5) (hC4.up hV5) (by omega) (by omega)).mono ?_
      rintro e w405 ⟨rfl, hb405⟩
      have hV6 := Up.then_ hV5 hb405
      go_wp2_with fail
      refine hK.out _ _ (by exact ⟨hV6, fun _ _ hb => hV6.cell hb⟩) (fun hHeld6 => ?_)
      clear hK K
      (try simp only [List.getElem_toArray]); (try simp only [List.getElem_cons_succ]); (try simp only [List.getElem_cons_zero]); (try simp only [Act.put]); (try simp only [List.setIfInBounds_toArray]); (try simp only [List.set_cons_succ]); (try simp only [List.set_cons_zero])
      refine wpAnyH_take (i := 21) (v := ?_) rfl (by kernel_rfl) (by kernel_rfl) (by kernel_rfl) (fun _ _ _ h => h) (Or.inl ⟨by rfl, ?_⟩) (by assumption) ?_
      rotate_left
      · (intro w' hSw; go_simp; try with_reducible rfl)
      (try simp only [List.getElem_toArray]); (try simp only [List.getElem_cons_succ]); (try simp only [List.getElem_cons_zero]); (try simp only [Act.put]); (try simp only [List.setIfInBounds_toArray]); (try simp only [List.set_cons_succ]); (try simp only [List.set_cons_zero])
      refine wpAnyH_take (i := 22) (v := ?_) rfl (by kernel_rfl) (by kernel_rfl) (by kernel_rfl) (fun _ _ _ h => h) (Or.inl ⟨by rfl, ?_⟩) (by assumption) ?_
      rotate_left
      · (intro w' hSw; go_simp; try with_reducible rfl)
      (try simp only [List.getElem_toArray]); (try simp only [List.getElem_cons_succ]); (try simp only [List.getElem_cons_zero]); (try simp only [Act.put]); (try simp only [List.setIfInBounds_toArray]); (try simp only [List.set_cons_succ]); (try simp only [List.set_cons_zero])
      refine wpAnyH_take (i := 23) (v := ?_) rfl (by kernel_rfl) (by kernel_rfl) (by kernel_rfl) (fun _ _ _ h => h) (Or.inl ⟨by rfl, ?_⟩) (by assumption) ?_
      rotate_left
      · (intro w' hSw; go_simp; try with_reducible rfl)
      (try simp only [List.getElem_toArray]); (try simp only [List.getElem_cons_succ]); (try simp only [List.getElem_cons_zero]); (try simp only [Act.put]); (try simp only [List.setIfInBounds_toArray]); (try simp only [List.set_cons_succ]); (try simp only [List.set_cons_zero])
      refine wpAnyH_done (by kernel_rfl) ?_ _
      have hU40 := hV6
      go_wp2
      go_ret
      exact ⟨rfl, Up.then_ hw35 hU40⟩
    · obtain ⟨a1, a2, ⟨s, a3, a4, a5⟩, a6, a7, a8⟩ := HFA.out rfl
      clear HFA
      have JI : ∀ w', RI w' A6 X.length X → Calls Tryz.prog 18 #[.agg #[.int .i64 N, .slice A6 X.length c6]] w' (fun e w'' => e = .returned (.bool true) ∧ Below w'.heap.size w' w'') := fun w' h => by rw [← a1]; exact implIsInterval_any N A6 X.length c6 X w' h (by omega)
      have JC : ∀ w', RI w' A6 X.length X → Calls Tryz.prog 19 #[.agg #[.int .i64 N, .slice A6 X.length c6]] w' (fun e w'' => e = .returned (.int .i64 k) ∧ Below w'.heap.size w' w'') := fun w' h => by rw [← a2]; exact specCliqueNumber_any N A6 X.length c6 X w' h (by omega)
      have JL : ∀ w', RI w' A6 X.length X → Calls Tryz.prog 21 #[.agg #[.int .i64 N, .slice A6 X.length c6]] w' (fun e w'' => e = .returned (.int .i64 (s : Nat)) ∧ Below w'.heap.size w' w'') := fun w' h => by rw [← a4]; exact specLargestIndependent_any N A6 X.length c6 X w' h (by omega)
      have JS : ∀ w', Calls Tryz.prog 20 #[.int .i64 (s : Nat)] w' (fun e w'' => e = .returned (.int .i64 (st.length : Nat)) ∧ Below w'.heap.size w' w'') := fun w' => by rw [← a5]; exact specCountSet_any s w' a3
      obtain ⟨p, hp⟩ : ∃ p, p = pointsCovered L R x := ⟨_, rfl⟩
      rw [← hp] at a6 a7
      have JP : ∀ w', RI w' A na L → RI w' C nc R → Calls Tryz.prog 22 #[.agg #[.slice A na ca, .slice C nc cc], .int .i64 x] w' (fun e w'' => e = .returned (.int .i64 (p : Nat)) ∧ Below w'.heap.size w' w'') := fun w' h1 h2 => by rw [hp]; exact implPointsCovered_any A C na nc ca cc L R x w' h1 h2 (by omega) (by omega)
      have JK : ∀ w', Calls Tryz.prog 20 #[.int .i64 (p : Nat)] w' (fun e w'' => e = .returned (.int .i64 k) ∧ Below w'.heap.size w' w'') := fun w' => by rw [← a7]; exact specCountSet_any p w' a6
      obtain ⟨pm, hpm⟩ : ∃ pm, pm = isProperModel L R := ⟨_, rfl⟩
      have JM : ∀ w', RI w' A na L → RI w' C nc R → Calls Tryz.prog 23 #[.agg #[.slice A na ca, .slice C nc cc]] w' (fun e w'' => e = .returned (.bool pm) ∧ Below w'.heap.size w' w'') := fun w' h1 h2 => by rw [hpm]; exact implIsProperModel_any A C na nc ca cc L R w' h1 h2 (by omega) (by omega)
      have JU : pm = true → ∀ w', RI w' A6 X.length X → Calls Tryz.prog 24 #[.agg #[.int .i64 N, .slice A6 X.length c6]] w' (fun e w'' => e = .returned (.bool true) ∧ Below w'.heap.size w' w'') := fun e w' h => by rw [← a8 (by rw [← hpm]; exact e)]; exact implIsProper_any N A6 X.length c6 X w' h (by omega)
      have JU := Lib.hid JU
      clear a1 a2 a3 a4 a5 a6 a7 a8 hp hpm
      go_wp2_with fail
      refine (JI _ hO6).mono ?_
      rintro e w13 ⟨rfl, hb13⟩
      have hU13 : Up w124 w13 := Up.then_ (by go_grown) hb13
      replace hB := hB.up hU13
      replace hA := hA.up hU13
      replace hC := hC.up hU13
      replace hM := hM.up hU13
      replace hG7 := hG7.up hU13
      replace hO6 := hO6.up hU13
      replace hO11 := hO11.up hU13
      replace yhM := hM.two
      replace lhM := hM.lt
      replace yhG7 := hG7.two
      replace lhG7 := hG7.lt
      have hw13 := Up.then_ hw12 hU13
      go_wp2_with fail
      refine (JC _ hO6).mono ?_
      rintro e w14 ⟨rfl, hb14⟩
      have hU14 : Up w13 w14 := Up.then_ (by go_grown) hb14
      replace hB := hB.up hU14
      replace hA := hA.up hU14
      replace hC := hC.up hU14
      replace hM := hM.up hU14
      replace hG7 := hG7.up hU14
      replace hO6 := hO6.up hU14
      replace hO11 := hO11.up hU14
      replace yhM := hM.two
      replace lhM := hM.lt
      replace yhG7 := hG7.two
      replace lhG7 := hG7.lt
      have hw14 := Up.then_ hw13 hU14
      go_wp2_with fail
      refine (JL _ hO6).mono ?_
      rintro e w15 ⟨rfl, hb15⟩
      have hU15 : Up w14 w15 := Up.then_ (by go_grown) hb15
      replace hB := hB.up hU15
      replace hA := hA.up hU15
      replace hC := hC.up hU15
      replace hM := hM.up hU15
      replace hG7 := hG7.up hU15
      replace hO6 := hO6.up hU15
      replace hO11 := hO11.up hU15
      replace yhM := hM.two
      replace lhM := hM.lt
      replace yhG7 := hG7.two
      replace lhG7 := hG7.lt
      have hw15 := Up.then_ hw14 hU15
      go_wp2_with fail
      refine (JS _).mono ?_
      rintro e w16 ⟨rfl, hb16⟩
      have hU16 : Up w15 w16 := Up.then_ (by go_grown) hb16
      replace hB := hB.up hU16
      replace hA := hA.up hU16
      replace hC := hC.up hU16
      replace hM := hM.up hU16
      replace hG7 := hG7.up hU16
      replace hO6 := hO6.up hU16
      replace hO11 := hO11.up hU16
      replace yhM := hM.two
      replace lhM := hM.lt
      replace yhG7 := hG7.two
      replace lhG7 := hG7.lt
      have hw16 := Up.then_ hw15 hU16
      go_wp2_with fail
      refine (JP _ hA hC).mono ?_
      rintro e w17 ⟨rfl, hb17⟩
      have hU17 : Up w16 w17 := Up.then_ (by go_grown) hb17
      replace hB := hB.up hU17
      replace hA := hA.up hU17
      replace hC := hC.up hU17
      replace hM := hM.up hU17
      replace hG7 := hG7.up hU17
      replace hO6 := hO6.up hU17
      replace hO11 := hO11.up hU17
      replace yhM := hM.two
      replace lhM := hM.lt
      replace yhG7 := hG7.two
      replace lhG7 := hG7.lt
      have hw17 := Up.then_ hw16 hU17
      go_wp2_with fail
      refine (JK _).mono ?_
      rintro e w18 ⟨rfl, hb18⟩
      have hU18 : Up w17 w18 := Up.then_ (by go_grown) hb18
      replace hB := hB.up hU18
      replace hA := hA.up hU18
      replace hC := hC.up hU18
      replace hM := hM.up hU18
      replace hG7 := hG7.up hU18
      replace hO6 := hO6.up hU18
      replace hO11 := hO11.up hU18
      replace yhM := hM.two
      replace lhM := hM.lt
      replace yhG7 := hG7.two
      replace lhG7 := hG7.lt
      have hw18 := Up.then_ hw17 hU18
      go_wp2_with fail
      refine (JM _ hA hC).mono ?_
      rintro e w19 ⟨rfl, hb19⟩
      have hU19 : Up w18 w19 := Up.then_ (by go_grown) hb19
      replace hB := hB.up hU19
      replace hA := hA.up hU19
      replace hC := hC.up hU19
      replace hM := hM.up hU19
      replace hG7 := hG7.up hU19
      replace hO6 := hO6.up hU19
      replace hO11 := hO11.up hU19
      replace yhM := hM.two
      replace lhM := hM.lt
      replace yhG7 := hG7.two
      replace lhG7 := hG7.lt
      have hw19 := Up.then_ hw18 hU19
      clear JI JC JL JS JP JK JM hU13 hU14 hU15 hU16 hU17 hU18 hU19 hb13 hb14 hb15 hb16 hb17 hb18 hb19 hw12 hw13 hw14 hw15 hw16 hw17 hw18
      cases pm
      · clear JU hO11 hO6 hG7 yhG7 lhG7
        clear hA hC hM yhM lhM
        have hlowT : ∀ ad, B = some ad → ad.block < w19.heap.size := fun ad e => by have := hlow ad e; have := hw19.size; omega
        go_wp2_with fail
        refine (drawIsUnitModel_any B n c bs _ hB hs hlowT).mono ?_
        rintro e w30 ⟨A2, na2, ca2, C2, nc2, cc2, L2, R2, z2, rfl, hA2, hC2, hna2, hnc2, hb30⟩
        have hU30 : Up w19 w30 := Up.then_ (by go_grown) hb30
        replace hB := hB.up hU30
        have hw30 := Up.then_ hw19 hU30
        replace hA2 := hA2.1
        replace hC2 := hC2.1
        have hU31 : Up w30 (w30.alloc (.cells #[.slice A2 na2 ca2, .slice C2 nc2 cc2] 26)) := by go_grown
        have hM2 := Blk.new w30 26 #[.slice A2 na2 ca2, .slice C2 nc2 cc2]
        have hw31 := Up.then_ hw30 hU31
        replace hA2 := hA2.up hU31
        replace hC2 := hC2.up hU31
        replace hB := hB.up hU31
        obtain ⟨g31, hg31⟩ : ∃ g31, g31 = w30.heap.size := ⟨_, rfl⟩
        rw [← hg31] at hM2
        go_wp2_with fail
        rw [← hg31]
        generalize w30.alloc (.cells #[.slice A2 na2 ca2, .slice C2 nc2 cc2] 26) = w31 at hM2 hA2 hC2 hB hw31 ⊢
        have hlow31 : ∀ ad, B = some ad → ad.block < w31.heap.size := fun ad e => by have := hlow ad e; have := hw31.size; omega
        clear hg31 hU31
        refine (drawIsProperModel_any B n c bs _ hB hs hlow31).mono ?_
        rintro e w32 ⟨A3, na3, ca3, C3, nc3, cc3, L3, R3, rfl, hA3, hC3, hna3, hnc3, hb32⟩
        have hU32 : Up w31 w32 := hb32
        replace hB := hB.up hU32
        replace hA2 := hA2.up hU32
        replace hC2 := hC2.up hU32
        replace hM2 := hM2.up hU32
        have hw32 := Up.then_ hw31 hU32
        replace hA3 := hA3.1
        replace hC3 := hC3.1
        have hU33 : Up w32 (w32.alloc (.cells #[.slice A3 na3 ca3, .slice C3 nc3 cc3] 26)) := by go_grown
        have hM3 := Blk.new w32 26 #[.slice A3 na3 ca3, .slice C3 nc3 cc3]
        have hw33 := Up.then_ hw32 hU33
        replace hA2 := hA2.up hU33
        replace hC2 := hC2.up hU33
        replace hB := hB.up hU33
        replace hM2 := hM2.up hU33
        replace hA3 := hA3.up hU33
        replace hC3 := hC3.up hU33
        obtain ⟨g33, hg33⟩ : ∃ g33, g33 = w32.heap.size := ⟨_, rfl⟩
        rw [← hg33] at hM3
        go_wp2_with fail
        rw [← hg33]
        generalize w32.alloc (.cells #[.slice A3 na3 ca3, .slice C3 nc3 cc3] 26) = w33 at hM3 hA2 hC2 hB hM2 hA3 hC3 hw33 ⊢
        have hlow33 : ∀ ad, B = some ad → ad.block < w33.heap.size := fun ad e => by have := hlow ad e; have := hw33.size; omega
        clear hg33 hU33
        refine (drawPointsCovered_any B n c bs _ hB hs hlow33).mono ?_
        rintro e w34 ⟨A4, na4, ca4, C4, nc4, cc4, L4, R4, z4, rfl, hA4, hC4, hna4, hnc4, hb34⟩
        have hU34 : Up w33 w34 := hb34
        replace hB := hB.up hU34
        replace hA2 := hA2.up hU34
        replace hC2 := hC2.up hU34
        replace hM2 := hM2.up hU34
        replace hA3 := hA3.up hU34
        replace hC3 := hC3.up hU34
        replace hM3 := hM3.up hU34
        have hw34 := Up.then_ hw33 hU34
        replace hA4 := hA4.1
        replace hC4 := hC4.1
        clear hB hlowT hlow31 hlow33
        have hU35 : Up w34 (w34.alloc (.cells #[.slice A4 na4 ca4, .slice C4 nc4 cc4] 26)) := by go_grown
        have hM4 := Blk.new w34 26 #[.slice A4 na4 ca4, .slice C4 nc4 cc4]
        have hw35 := Up.then_ hw34 hU35
        replace hA2 := hA2.up hU35
        replace hC2 := hC2.up hU35
        replace hM2 := hM2.up hU35
        replace hA3 := hA3.up hU35
        replace hC3 := hC3.up hU35
        replace hM3 := hM3.up hU35
        replace hA4 := hA4.up hU35
        replace hC4 := hC4.up hU35
        obtain ⟨g35, hg35⟩ : ∃ g35, g35 = w34.heap.size := ⟨_, rfl⟩
        rw [← hg35] at hM4
        go_wp2_with fail
        rw [← hg35]
        generalize w34.alloc (.cells #[.slice A4 na4 ca4, .slice C4 nc4 cc4] 26) = w35 at hM4 hA2 hC2 hM2 hA3 hC3 hM3 hA4 hC4 hw35 ⊢
        clear hg35 hU35
        have yhM2 := hM2.two
        have lhM2 := hM2.lt
        have yhM3 := hM3.two
        have lhM3 := hM3.lt
        have yhM4 := hM4.two
        have lhM4 := hM4.lt
        clear hw30 hw31 hw32 hw33 hw34 hU30 hU32 hU34 hb30 hb32 hb34
        have hV0 : Up w35 w35.drew := (Up.refl _).drew
        refine wp_region_held_drew (S := (fun w' => Up w35 w' ∧ (∀ b o, b < w35.heap.size → w'.cell? ⟨b, o, none⟩ = w35.cell? ⟨b, o, none⟩))) (by kernel_rfl) (by exact ⟨hV0, fun _ _ hb => hV0.cell hb⟩) (fun hHeld => ?_)
        refine wpAnyH_take (i := 0) (v := ?_) rfl (by kernel_rfl) (by kernel_rfl) (by kernel_rfl) (fun _ _ _ h => h) (Or.inl ⟨by rfl, ?_⟩) (by assumption) ?_
        rotate_left
        · (intro w' hSw; go_simp; try with_reducible rfl)
        (try simp only [List.getElem_toArray]); (try simp only [List.getElem_cons_succ]); (try simp only [List.getElem_cons_zero]); (try simp only [Act.put]); (try simp only [List.setIfInBounds_toArray]); (try simp only [List.set_cons_succ]); (try simp only [List.set_cons_zero])
        refine wpAnyH_take (i := 1) (v := ?_) rfl (by kernel_rfl) (by kernel_rfl) (by kernel_rfl) (fun _ _ _ h => h) (Or.inl ⟨by rfl, ?_⟩) (by assumption) ?_
        rotate_left
        · (intro w' hSw; go_simp; try with_reducible rfl)
        (try simp only [List.getElem_toArray]); (try simp only [List.getElem_cons_succ]); (try simp only [List.getElem_cons_zero]); (try simp only [Act.put]); (try simp only [List.setIfInBounds_toArray]); (try simp only [List.set_cons_succ]); (try simp only [List.set_cons_zero])
        refine wpAnyH_take (i := 3) (v := ?_) rfl (by kernel_rfl) (by kernel_rfl) (by kernel_rfl) (fun _ _ _ h => h) (Or.inl ⟨by rfl, ?_⟩) (by assumption) ?_
        rotate_left
        · (intro w' hSw; go_simp; try with_reducible rfl)
        (try simp only [List.getElem_toArray]); (try simp only [List.getElem_cons_succ]); (try simp only [List.getElem_cons_zero]); (try simp only [Act.put]); (try simp only [List.setIfInBounds_toArray]); (try simp only [List.set_cons_succ]); (try simp only [List.set_cons_zero])
        refine wpAnyH_take (i := 4) (v := ?_) rfl (by kernel_rfl) (by kernel_rfl) (by kernel_rfl) (fun _ _ _ h => h) (Or.inl ⟨by rfl, ?_⟩) (by assumption) ?_
        rotate_left
        · (intro w' hSw; go_simp; try with_reducible rfl)
        (try simp only [List.getElem_toArray]); (try simp only [List.getElem_cons_succ]); (try simp only [List.getElem_cons_zero]); (try simp only [Act.put]); (try simp only [List.setIfInBounds_toArray]); (try simp only [List.set_cons_succ]); (try simp only [List.set_cons_zero])
        refine wpAnyH_ready (rs := [2]) (by kernel_rfl) (by simp) ?_
        refine AllReadyH.cons rfl (fun K hK => ?_) AllReadyH.nil
        go_simp
        go_at_call 28
        refine (implIsUnitModel_any A2 C2 na2 nc2 ca2 cc2 L2 R2 z2 _ (hA2.up hV0) (hC2.up hV0) (by omega) (by omega)).mono ?_
        rintro e w400 ⟨rfl, hb400⟩
        have hV1 := Up.then_ hV0 hb400
        go_wp2_with fail
        refine hK.out _ _ (by exact ⟨hV1, fun _ _ hb => hV1.cell hb⟩) (fun hHeld1 => ?_)
        clear hK K
        (try simp only [List.getElem_toArray]); (try simp only [List.getElem_cons_succ]); (try simp only [List.getElem_cons_zero]); (try simp only [Act.put]); (try simp only [List.setIfInBounds_toArray]); (try simp only [List.set_cons_succ]); (try simp only [List.set_cons_zero])
        refine wpAnyH_ready (rs := [5]) (by kernel_rfl) (by simp) ?_
        refine AllReadyH.cons rfl (fun K hK => ?_) AllReadyH.nil
        go_simp
        go_at_call 29
        refine (specIsUnitModel_any A2 C2 na2 nc2 ca2 cc2 L2 R2 z2 _ (hA2.up hV1) (hC2.up hV1) (by omega) (by omega)).mono ?_
        rintro e w401 ⟨rfl, hb401⟩
        have hV2 := Up.then_ hV1 hb401
        go_wp2_with fail
        refine hK.out _ _ (by exact ⟨hV2, fun _ _ hb => hV2.cell hb⟩) (fun hHeld2 => ?_)
        clear hK K
        (try simp only [List.getElem_toArray]); (try simp only [List.getElem_cons_succ]); (try simp only [List.getElem_cons_zero]); (try simp only [Act.put]); (try simp only [List.setIfInBounds_toArray]); (try simp only [List.set_cons_succ]); (try simp only [List.set_cons_zero])
        refine wpAnyH_take (i := 6) (v := ?_) rfl (by kernel_rfl) (by kernel_rfl) (by kernel_rfl) (fun _ _ _ h => h) (Or.inl ⟨by rfl, ?_⟩) (by assumption) ?_
        rotate_left
        · (intro w' hSw; go_simp; try with_reducible rfl)
        (try simp only [List.getElem_toArray]); (try simp only [List.getElem_cons_succ]); (try simp only [List.getElem_cons_zero]); (try simp only [Act.put]); (try simp only [List.setIfInBounds_toArray]); (try simp only [List.set_cons_succ]); (try simp only [List.set_cons_zero])
        refine wpAnyH_take (i := 7) (v := ?_) rfl (by kernel_rfl) (by kernel_rfl) (by kernel_rfl) (fun _ _ _ h => h) (Or.inl ⟨by rfl, ?_⟩) (by assumption) ?_
        rotate_left
        · (intro w' hSw; go_simp; try with_reducible rfl)
        (try simp only [List.getElem_toArray]); (try simp only [List.getElem_cons_succ]); (try simp only [List.getElem_cons_zero]); (try simp only [Act.put]); (try simp only [List.setIfInBounds_toArray]); (try simp only [List.set_cons_succ]); (try simp only [List.set_cons_zero])
        refine wpAnyH_take (i := 8) (v := ?_) rfl (by kernel_rfl) (by kernel_rfl) (by kernel_rfl) (fun _ _ _ h => h) (Or.inl ⟨by rfl, ?_⟩) (by assumption) ?_
        rotate_left
        · (intro w' hSw; go_simp; try with_reducible rfl)
        (try simp only [List.getElem_toArray]); (try simp only [List.getElem_cons_succ]); (try simp only [List.getElem_cons_zero]); (try simp only [Act.put]); (try simp only [List.setIfInBounds_toArray]); (try simp only [List.set_cons_succ]); (try simp only [List.set_cons_zero])
        refine wpAnyH_take (i := 10) (v := ?_) rfl (by kernel_rfl) (by kernel_rfl) (by kernel_rfl) (fun _ _ _ h => h) (Or.inl ⟨by rfl, ?_⟩) (by assumption) ?_
        rotate_left
        · (intro w' hSw; go_simp; try with_reducible rfl)
        (try simp only [List.getElem_toArray]); (try simp only [List.getElem_cons_succ]); (try simp only [List.getElem_cons_zero]); (try simp only [Act.put]); (try simp only [List.setIfInBounds_toArray]); (try simp only [List.set_cons_succ]); (try simp only [List.set_cons_zero])
        refine wpAnyH_ready (rs := [9]) (by kernel_rfl) (by simp) ?_
        refine AllReadyH.cons rfl (fun K hK => ?_) AllReadyH.nil
        go_simp
        go_at_call 23
        refine (implIsProperModel_any A3 C3 na3 nc3 ca3 cc3 L3 R3 _ (hA3.up hV2) (hC3.up hV2) (by omega) (by omega)).mono ?_
        rintro e w402 ⟨rfl, hb402⟩
        have hV3 := Up.then_ hV2 hb402
        go_wp2_with fail
        refine hK.out _ _ (by exact ⟨hV3, fun _ _ hb => hV3.cell hb⟩) (fun hHeld3 => ?_)
        clear hK K
        (try simp only [List.getElem_toArray]); (try simp only [List.getElem_cons_succ]); (try simp only [List.getElem_cons_zero]); (try simp only [Act.put]); (try simp only [List.setIfInBounds_toArray]); (try simp only [List.set_cons_succ]); (try simp only [List.set_cons_zero])
        refine wpAnyH_ready (rs := [11]) (by kernel_rfl) (by simp) ?_
        refine AllReadyH.cons rfl (fun K hK => ?_) AllReadyH.nil
        go_simp
        go_at_call 30
        refine (specIsProperModel_any A3 C3 na3 nc3 ca3 cc3 L3 R3 _ (hA3.up hV3) (hC3.up hV3) (by omega) (by omega)).mono ?_
        rintro e w403 ⟨rfl, hb403⟩
        have hV4 := Up.then_ hV3 hb403
        go_wp2_with fail
        refine hK.out _ _ (by exact ⟨hV4, fun _ _ hb => hV4.cell hb⟩) (fun hHeld4 => ?_)
        clear hK K
        (try simp only [List.getElem_toArray]); (try simp only [List.getElem_cons_succ]); (try simp only [List.getElem_cons_zero]); (try simp only [Act.put]); (try simp only [List.setIfInBounds_toArray]); (try simp only [List.set_cons_succ]); (try simp only [List.set_cons_zero])
        refine wpAnyH_take (i := 12) (v := ?_) rfl (by kernel_rfl) (by kernel_rfl) (by kernel_rfl) (fun _ _ _ h => h) (Or.inl ⟨by rfl, ?_⟩) (by assumption) ?_
        rotate_left
        · (intro w' hSw; go_simp; try with_reducible rfl)
        (try simp only [List.getElem_toArray]); (try simp only [List.getElem_cons_succ]); (try simp only [List.getElem_cons_zero]); (try simp only [Act.put]); (try simp only [List.setIfInBounds_toArray]); (try simp only [List.set_cons_succ]); (try simp only [List.set_cons_zero])
        refine wpAnyH_take (i := 13) (v := ?_) rfl (by kernel_rfl) (by kernel_rfl) (by kernel_rfl) (fun _ _ _ h => h) (Or.inl ⟨by rfl, ?_⟩) (by assumption) ?_
        rotate_left
        · (intro w' hSw; go_simp; try with_reducible rfl)
        (try simp only [List.getElem_toArray]); (try simp only [List.getElem_cons_succ]); (try simp only [List.getElem_cons_zero]); (try simp only [Act.put]); (try simp only [List.setIfInBounds_toArray]); (try simp only [List.set_cons_succ]); (try simp only [List.set_cons_zero])
        refine wpAnyH_take (i := 14) (v := ?_) rfl (by kernel_rfl) (by kernel_rfl) (by kernel_rfl) (fun _ _ _ h => h) (Or.inl ⟨by rfl, ?_⟩) (by assumption) ?_
        rotate_left
        · (intro w' hSw; go_simp; try with_reducible rfl)
        (try simp only [List.getElem_toArray]); (try simp only [List.getElem_cons_succ]); (try simp only [List.getElem_cons_zero]); (try simp only [Act.put]); (try simp only [List.setIfInBounds_toArray]); (try simp only [List.set_cons_succ]); (try simp only [List.set_cons_zero])
        refine wpAnyH_take (i := 15) (v := ?_) rfl (by kernel_rfl) (by kernel_rfl) (by kernel_rfl) (fun _ _ _ h => h) (Or.inl ⟨by rfl, ?_⟩) (by assumption) ?_
        rotate_left
        · (intro w' hSw; go_simp; try with_reducible rfl)
        (try simp only [List.getElem_toArray]); (try simp only [List.getElem_cons_succ]); (try simp only [List.getElem_cons_zero]); (try simp only [Act.put]); (try simp only [List.setIfInBounds_toArray]); (try simp only [List.set_cons_succ]); (try simp only [List.set_cons_zero])
        refine wpAnyH_take (i := 16) (v := ?_) rfl (by kernel_rfl) (by kernel_rfl) (by kernel_rfl) (fun _ _ _ h => h) (Or.inl ⟨by rfl, ?_⟩) (by assumption) ?_
        rotate_left
        · (intro w' hSw; go_simp; try with_reducible rfl)
        (try simp only [List.getElem_toArray]); (try simp only [List.getElem_cons_succ]); (try simp only [List.getElem_cons_zero]); (try simp only [Act.put]); (try simp only [List.setIfInBounds_toArray]); (try simp only [List.set_cons_succ]); (try simp only [List.set_cons_zero])
        refine wpAnyH_take (i := 18) (v := ?_) rfl (by kernel_rfl) (by kernel_rfl) (by kernel_rfl) (fun _ _ _ h => h) (Or.inl ⟨by rfl, ?_⟩) (by assumption) ?_
        rotate_left
        · (intro w' hSw; go_simp; try with_reducible rfl)
        (try simp only [List.getElem_toArray]); (try simp only [List.getElem_cons_succ]); (try simp only [List.getElem_cons_zero]); (try simp only [Act.put]); (try simp only [List.setIfInBounds_toArray]); (try simp only [List.set_cons_succ]); (try simp only [List.set_cons_zero])
        refine wpAnyH_take (i := 19) (v := ?_) rfl (by kernel_rfl) (by kernel_rfl) (by kernel_rfl) (fun _ _ _ h => h) (Or.inl ⟨by rfl, ?_⟩) (by assumption) ?_
        rotate_left
        · (intro w' hSw; go_simp; try with_reducible rfl)
        (try simp only [List.getElem_toArray]); (try simp only [List.getElem_cons_succ]); (try simp only [List.getElem_cons_zero]); (try simp only [Act.put]); (try simp only [List.setIfInBounds_toArray]); (try simp only [List.set_cons_succ]); (try simp only [List.set_cons_zero])
        refine wpAnyH_ready (rs := [17]) (by kernel_rfl) (by simp) ?_
        refine AllReadyH.cons rfl (fun K hK => ?_) AllReadyH.nil
        go_simp
        go_at_call 22
        refine (implPointsCovered_any A4 C4 na4 nc4 ca4 cc4 L4 R4 z4 _ (hA4.up hV4) (hC4.up hV4) (by omega) (by omega)).mono ?_
        rintro e w404 ⟨rfl, hb404⟩
        have hV5 := Up.then_ hV4 hb404
        go_wp2_with fail
        refine hK.out _ _ (by exact ⟨hV5, fun _ _ hb => hV5.cell hb⟩) (fun hHeld5 => ?_)
        clear hK K
        (try simp only [List.getElem_toArray]); (try simp only [List.getElem_cons_succ]); (try simp only [List.getElem_cons_zero]); (try simp only [Act.put]); (try simp only [List.setIfInBounds_toArray]); (try simp only [List.set_cons_succ]); (try simp only [List.set_cons_zero])
        refine wpAnyH_ready (rs := [20]) (by kernel_rfl) (by simp) ?_
        refine AllReadyH.cons rfl (fun K hK => ?_) AllReadyH.nil
        go_simp
        go_at_call 31
        refine (specPointsCovered_any A4 C4 na4 nc4 ca4 cc4 L4 R4 z4 _ (hA4.up hV5) (hC4.up hV5) (by omega) (by omega)).mono ?_
        rintro e w405 ⟨rfl, hb405⟩
        have hV6 := Up.then_ hV5 hb405
        go_wp2_with fail
        refine hK.out _ _ (by exact ⟨hV6, fun _ _ hb => hV6.cell hb⟩) (fun hHeld6 => ?_)
        clear hK K
        (try simp only [List.getElem_toArray]); (try simp only [List.getElem_cons_succ]); (try simp only [List.getElem_cons_zero]); (try simp only [Act.put]); (try simp only [List.setIfInBounds_toArray]); (try simp only [List.set_cons_succ]); (try simp only [List.set_cons_zero])
        refine wpAnyH_take (i := 21) (v := ?_) rfl (by kernel_rfl) (by kernel_rfl) (by kernel_rfl) (fun _ _ _ h => h) (Or.inl ⟨by rfl, ?_⟩) (by assumption) ?_
        rotate_left
        · (intro w' hSw; go_simp; try with_reducible rfl)
        (try simp only [List.getElem_toArray]); (try simp only [List.getElem_cons_succ]); (try simp only [List.getElem_cons_zero]); (try simp only [Act.put]); (try simp only [List.setIfInBounds_toArray]); (try simp only [List.set_cons_succ]); (try simp only [List.set_cons_zero])
        refine wpAnyH_take (i := 22) (v := ?_) rfl (by kernel_rfl) (by kernel_rfl) (by kernel_rfl) (fun _ _ _ h => h) (Or.inl ⟨by rfl, ?_⟩) (by assumption) ?_
        rotate_left
        · (intro w' hSw; go_simp; try with_reducible rfl)
        (try simp only [List.getElem_toArray]); (try simp only [List.getElem_cons_succ]); (try simp only [List.getElem_cons_zero]); (try simp only [Act.put]); (try simp only [List.setIfInBounds_toArray]); (try simp only [List.set_cons_succ]); (try simp only [List.set_cons_zero])
        refine wpAnyH_take (i := 23) (v := ?_) rfl (by kernel_rfl) (by kernel_rfl) (by kernel_rfl) (fun _ _ _ h => h) (Or.inl ⟨by rfl, ?_⟩) (by assumption) ?_
        rotate_left
        · (intro w' hSw; go_simp; try with_reducible rfl)
        (try simp only [List.getElem_toArray]); (try simp only [List.getElem_cons_succ]); (try simp only [List.getElem_cons_zero]); (try simp only [Act.put]); (try simp only [List.setIfInBounds_toArray]); (try simp only [List.set_cons_succ]); (try simp only [List.set_cons_zero])
        refine wpAnyH_done (by kernel_rfl) ?_ _
        have hU40 := hV6
        go_wp2
        go_ret
        exact ⟨rfl, Up.then_ hw35 hU40⟩
      · have JU1 := JU.out rfl
        clear JU
        go_wp2_with fail
        refine (JU1 _ hO6).mono ?_
        rintro e w20 ⟨rfl, hb20⟩
        have hU20 : Up w19 w20 := Up.then_ (by go_grown) hb20
        replace hB := hB.up hU20
        replace hA := hA.up hU20
        replace hC := hC.up hU20
        replace hM := hM.up hU20
        replace hG7 := hG7.up hU20
        replace hO6 := hO6.up hU20
        replace hO11 := hO11.up hU20
        replace yhM := hM.two
        replace lhM := hM.lt
        replace yhG7 := hG7.two
        replace lhG7 := hG7.lt
        have hw20 := Up.then_ hw19 hU20
        clear JU1 hO11 hO6 hG7 yhG7 lhG7 hU20 hb20 hw19
        clear hA hC hM yhM lhM
        have hlowT : ∀ ad, B = some ad → ad.block < w20.heap.size := fun ad e => by have := hlow ad e; have := hw20.size; omega
        go_wp2_with fail
        refine (drawIsUnitModel_any B n c bs _ hB hs hlowT).mono ?_
        rintro e w30 ⟨A2, na2, ca2, C2, nc2, cc2, L2, R2, z2, rfl, hA2, hC2, hna2, hnc2, hb30⟩
        have hU30 : Up w20 w30 := Up.then_ (by go_grown) hb30
        replace hB := hB.up hU30
        have hw30 := Up.then_ hw20 hU30
        replace hA2 := hA2.1
        replace hC2 := hC2.1
        have hU31 : Up w30 (w30.alloc (.cells #[.slice A2 na2 ca2, .slice C2 nc2 cc2] 26)) := by go_grown
        have hM2 := Blk.new w30 26 #[.slice A2 na2 ca2, .slice C2 nc2 cc2]
        have hw31 := Up.then_ hw30 hU31
        replace hA2 := hA2.up hU31
        replace hC2 := hC2.up hU31
        replace hB := hB.up hU31
        obtain ⟨g31, hg31⟩ : ∃ g31, g31 = w30.heap.size := ⟨_, rfl⟩
        rw [← hg31] at hM2
        go_wp2_with fail
        rw [← hg31]
        generalize w30.alloc (.cells #[.slice A2 na2 ca2, .slice C2 nc2 cc2] 26) = w31 at hM2 hA2 hC2 hB hw31 ⊢
        have hlow31 : ∀ ad, B = some ad → ad.block < w31.heap.size := fun ad e => by have := hlow ad e; have := hw31.size; omega
        clear hg31 hU31
        refine (drawIsProperModel_any B n c bs _ hB hs hlow31).mono ?_
        rintro e w32 ⟨A3, na3, ca3, C3, nc3, cc3, L3, R3, rfl, hA3, hC3, hna3, hnc3, hb32⟩
        have hU32 : Up w31 w32 := hb32
        replace hB := hB.up hU32
        replace hA2 := hA2.up hU32
        replace hC2 := hC2.up hU32
        replace hM2 := hM2.up hU32
        have hw32 := Up.then_ hw31 hU32
        replace hA3 := hA3.1
        replace hC3 := hC3.1
        have hU33 : Up w32 (w32.alloc (.cells #[.slice A3 na3 ca3, .slice C3 nc3 cc3] 26)) := by go_grown
        have hM3 := Blk.new w32 26 #[.slice A3 na3 ca3, .slice C3 nc3 cc3]
        have hw33 := Up.then_ hw32 hU33
        replace hA2 := hA2.up hU33
        replace hC2 := hC2.up hU33
        replace hB := hB.up hU33
        replace hM2 := hM2.up hU33
        replace hA3 := hA3.up hU33
        replace hC3 := hC3.up hU33
        obtain ⟨g33, hg33⟩ : ∃ g33, g33 = w32.heap.size := ⟨_, rfl⟩
        rw [← hg33] at hM3
        go_wp2_with fail
        rw [← hg33]
        generalize w32.alloc (.cells #[.slice A3 na3 ca3, .slice C3 nc3 cc3] 26) = w33 at hM3 hA2 hC2 hB hM2 hA3 hC3 hw33 ⊢
        have hlow33 : ∀ ad, B = some ad → ad.block < w33.heap.size := fun ad e => by have := hlow ad e; have := hw33.size; omega
        clear hg33 hU33
        refine (drawPointsCovered_any B n c bs _ hB hs hlow33).mono ?_
        rintro e w34 ⟨A4, na4, ca4, C4, nc4, cc4, L4, R4, z4, rfl, hA4, hC4, hna4, hnc4, hb34⟩
        have hU34 : Up w33 w34 := hb34
        replace hB := hB.up hU34
        replace hA2 := hA2.up hU34
        replace hC2 := hC2.up hU34
        replace hM2 := hM2.up hU34
        replace hA3 := hA3.up hU34
        replace hC3 := hC3.up hU34
        replace hM3 := hM3.up hU34
        have hw34 := Up.then_ hw33 hU34
        replace hA4 := hA4.1
        replace hC4 := hC4.1
        clear hB hlowT hlow31 hlow33
        have hU35 : Up w34 (w34.alloc (.cells #[.slice A4 na4 ca4, .slice C4 nc4 cc4] 26)) := by go_grown
        have hM4 := Blk.new w34 26 #[.slice A4 na4 ca4, .slice C4 nc4 cc4]
        have hw35 := Up.then_ hw34 hU35
        replace hA2 := hA2.up hU35
        replace hC2 := hC2.up hU35
        replace hM2 := hM2.up hU35
        replace hA3 := hA3.up hU35
        replace hC3 := hC3.up hU35
        replace hM3 := hM3.up hU35
        replace hA4 := hA4.up hU35
        replace hC4 := hC4.up hU35
        obtain ⟨g35, hg35⟩ : ∃ g35, g35 = w34.heap.size := ⟨_, rfl⟩
        rw [← hg35] at hM4
        go_wp2_with fail
        rw [← hg35]
        generalize w34.alloc (.cells #[.slice A4 na4 ca4, .slice C4 nc4 cc4] 26) = w35 at hM4 hA2 hC2 hM2 hA3 hC3 hM3 hA4 hC4 hw35 ⊢
        clear hg35 hU35
        have yhM2 := hM2.two
        have lhM2 := hM2.lt
        have yhM3 := hM3.two
        have lhM3 := hM3.lt
        have yhM4 := hM4.two
        have lhM4 := hM4.lt
        clear hw30 hw31 hw32 hw33 hw34 hU30 hU32 hU34 hb30 hb32 hb34
        have hV0 : Up w35 w35.drew := (Up.refl _).drew
        refine wp_region_held_drew (S := (fun w' => Up w35 w' ∧ (∀ b o, b < w35.heap.size → w'.cell? ⟨b, o, none⟩ = w35.cell? ⟨b, o, none⟩))) (by kernel_rfl) (by exact ⟨hV0, fun _ _ hb => hV0.cell hb⟩) (fun hHeld => ?_)
        refine wpAnyH_take (i := 0) (v := ?_) rfl (by kernel_rfl) (by kernel_rfl) (by kernel_rfl) (fun _ _ _ h => h) (Or.inl ⟨by rfl, ?_⟩) (by assumption) ?_
        rotate_left
        · (intro w' hSw; go_simp; try with_reducible rfl)
        (try simp only [List.getElem_toArray]); (try simp only [List.getElem_cons_succ]); (try simp only [List.getElem_cons_zero]); (try simp only [Act.put]); (try simp only [List.setIfInBounds_toArray]); (try simp only [List.set_cons_succ]); (try simp only [List.set_cons_zero])
        refine wpAnyH_take (i := 1) (v := ?_) rfl (by kernel_rfl) (by kernel_rfl) (by kernel_rfl) (fun _ _ _ h => h) (Or.inl ⟨by rfl, ?_⟩) (by assumption) ?_
        rotate_left
        · (intro w' hSw; go_simp; try with_reducible rfl)
        (try simp only [List.getElem_toArray]); (try simp only [List.getElem_cons_succ]); (try simp only [List.getElem_cons_zero]); (try simp only [Act.put]); (try simp only [List.setIfInBounds_toArray]); (try simp only [List.set_cons_succ]); (try simp only [List.set_cons_zero])
        refine wpAnyH_take (i := 3) (v := ?_) rfl (by kernel_rfl) (by kernel_rfl) (by kernel_rfl) (fun _ _ _ h => h) (Or.inl ⟨by rfl, ?_⟩) (by assumption) ?_
        rotate_left
        · (intro w' hSw; go_simp; try with_reducible rfl)
        (try simp only [List.getElem_toArray]); (try simp only [List.getElem_cons_succ]); (try simp only [List.getElem_cons_zero]); (try simp only [Act.put]); (try simp only [List.setIfInBounds_toArray]); (try simp only [List.set_cons_succ]); (try simp only [List.set_cons_zero])
        refine wpAnyH_take (i := 4) (v := ?_) rfl (by kernel_rfl) (by kernel_rfl) (by kernel_rfl) (fun _ _ _ h => h) (Or.inl ⟨by rfl, ?_⟩) (by assumption) ?_
        rotate_left
        · (intro w' hSw; go_simp; try with_reducible rfl)
        (try simp only [List.getElem_toArray]); (try simp only [List.getElem_cons_succ]); (try simp only [List.getElem_cons_zero]); (try simp only [Act.put]); (try simp only [List.setIfInBounds_toArray]); (try simp only [List.set_cons_succ]); (try simp only [List.set_cons_zero])
        refine wpAnyH_ready (rs := [2]) (by kernel_rfl) (by simp) ?_
        refine AllReadyH.cons rfl (fun K hK => ?_) AllReadyH.nil
        go_simp
        go_at_call 28
        refine (implIsUnitModel_any A2 C2 na2 nc2 ca2 cc2 L2 R2 z2 _ (hA2.up hV0) (hC2.up hV0) (by omega) (by omega)).mono ?_
        rintro e w400 ⟨rfl, hb400⟩
        have hV1 := Up.then_ hV0 hb400
        go_wp2_with fail
        refine hK.out _ _ (by exact ⟨hV1, fun _ _ hb => hV1.cell hb⟩) (fun hHeld1 => ?_)
        clear hK K
        (try simp only [List.getElem_toArray]); (try simp only [List.getElem_cons_succ]); (try simp only [List.getElem_cons_zero]); (try simp only [Act.put]); (try simp only [List.setIfInBounds_toArray]); (try simp only [List.set_cons_succ]); (try simp only [List.set_cons_zero])
        refine wpAnyH_ready (rs := [5]) (by kernel_rfl) (by simp) ?_
        refine AllReadyH.cons rfl (fun K hK => ?_) AllReadyH.nil
        go_simp
        go_at_call 29
        refine (specIsUnitModel_any A2 C2 na2 nc2 ca2 cc2 L2 R2 z2 _ (hA2.up hV1) (hC2.up hV1) (by omega) (by omega)).mono ?_
        rintro e w401 ⟨rfl, hb401⟩
        have hV2 := Up.then_ hV1 hb401
        go_wp2_with fail
        refine hK.out _ _ (by exact ⟨hV2, fun _ _ hb => hV2.cell hb⟩) (fun hHeld2 => ?_)
        clear hK K
        (try simp only [List.getElem_toArray]); (try simp only [List.getElem_cons_succ]); (try simp only [List.getElem_cons_zero]); (try simp only [Act.put]); (try simp only [List.setIfInBounds_toArray]); (try simp only [List.set_cons_succ]); (try simp only [List.set_cons_zero])
        refine wpAnyH_take (i := 6) (v := ?_) rfl (by kernel_rfl) (by kernel_rfl) (by kernel_rfl) (fun _ _ _ h => h) (Or.inl ⟨by rfl, ?_⟩) (by assumption) ?_
        rotate_left
        · (intro w' hSw; go_simp; try with_reducible rfl)
        (try simp only [List.getElem_toArray]); (try simp only [List.getElem_cons_succ]); (try simp only [List.getElem_cons_zero]); (try simp only [Act.put]); (try simp only [List.setIfInBounds_toArray]); (try simp only [List.set_cons_succ]); (try simp only [List.set_cons_zero])
        refine wpAnyH_take (i := 7) (v := ?_) rfl (by kernel_rfl) (by kernel_rfl) (by kernel_rfl) (fun _ _ _ h => h) (Or.inl ⟨by rfl, ?_⟩) (by assumption) ?_
        rotate_left
        · (intro w' hSw; go_simp; try with_reducible rfl)
        (try simp only [List.getElem_toArray]); (try simp only [List.getElem_cons_succ]); (try simp only [List.getElem_cons_zero]); (try simp only [Act.put]); (try simp only [List.setIfInBounds_toArray]); (try simp only [List.set_cons_succ]); (try simp only [List.set_cons_zero])
        refine wpAnyH_take (i := 8) (v := ?_) rfl (by kernel_rfl) (by kernel_rfl) (by kernel_rfl) (fun _ _ _ h => h) (Or.inl ⟨by rfl, ?_⟩) (by assumption) ?_
        rotate_left
        · (intro w' hSw; go_simp; try with_reducible rfl)
        (try simp only [List.getElem_toArray]); (try simp only [List.getElem_cons_succ]); (try simp only [List.getElem_cons_zero]); (try simp only [Act.put]); (try simp only [List.setIfInBounds_toArray]); (try simp only [List.set_cons_succ]); (try simp only [List.set_cons_zero])
        refine wpAnyH_take (i := 10) (v := ?_) rfl (by kernel_rfl) (by kernel_rfl) (by kernel_rfl) (fun _ _ _ h => h) (Or.inl ⟨by rfl, ?_⟩) (by assumption) ?_
        rotate_left
        · (intro w' hSw; go_simp; try with_reducible rfl)
        (try simp only [List.getElem_toArray]); (try simp only [List.getElem_cons_succ]); (try simp only [List.getElem_cons_zero]); (try simp only [Act.put]); (try simp only [List.setIfInBounds_toArray]); (try simp only [List.set_cons_succ]); (try simp only [List.set_cons_zero])
        refine wpAnyH_ready (rs := [9]) (by kernel_rfl) (by simp) ?_
        refine AllReadyH.cons rfl (fun K hK => ?_) AllReadyH.nil
        go_simp
        go_at_call 23
        refine (implIsProperModel_any A3 C3 na3 nc3 ca3 cc3 L3 R3 _ (hA3.up hV2) (hC3.up hV2) (by omega) (by omega)).mono ?_
        rintro e w402 ⟨rfl, hb402⟩
        have hV3 := Up.then_ hV2 hb402
        go_wp2_with fail
        refine hK.out _ _ (by exact ⟨hV3, fun _ _ hb => hV3.cell hb⟩) (fun hHeld3 => ?_)
        clear hK K
        (try simp only [List.getElem_toArray]); (try simp only [List.getElem_cons_succ]); (try simp only [List.getElem_cons_zero]); (try simp only [Act.put]); (try simp only [List.setIfInBounds_toArray]); (try simp only [List.set_cons_succ]); (try simp only [List.set_cons_zero])
        refine wpAnyH_ready (rs := [11]) (by kernel_rfl) (by simp) ?_
        refine AllReadyH.cons rfl (fun K hK => ?_) AllReadyH.nil
        go_simp
        go_at_call 30
        refine (specIsProperModel_any A3 C3 na3 nc3 ca3 cc3 L3 R3 _ (hA3.up hV3) (hC3.up hV3) (by omega) (by omega)).mono ?_
        rintro e w403 ⟨rfl, hb403⟩
        have hV4 := Up.then_ hV3 hb403
        go_wp2_with fail
        refine hK.out _ _ (by exact ⟨hV4, fun _ _ hb => hV4.cell hb⟩) (fun hHeld4 => ?_)
        clear hK K
        (try simp only [List.getElem_toArray]); (try simp only [List.getElem_cons_succ]); (try simp only [List.getElem_cons_zero]); (try simp only [Act.put]); (try simp only [List.setIfInBounds_toArray]); (try simp only [List.set_cons_succ]); (try simp only [List.set_cons_zero])
        refine wpAnyH_take (i := 12) (v := ?_) rfl (by kernel_rfl) (by kernel_rfl) (by kernel_rfl) (fun _ _ _ h => h) (Or.inl ⟨by rfl, ?_⟩) (by assumption) ?_
        rotate_left
        · (intro w' hSw; go_simp; try with_reducible rfl)
        (try simp only [List.getElem_toArray]); (try simp only [List.getElem_cons_succ]); (try simp only [List.getElem_cons_zero]); (try simp only [Act.put]); (try simp only [List.setIfInBounds_toArray]); (try simp only [List.set_cons_succ]); (try simp only [List.set_cons_zero])
        refine wpAnyH_take (i := 13) (v := ?_) rfl (by kernel_rfl) (by kernel_rfl) (by kernel_rfl) (fun _ _ _ h => h) (Or.inl ⟨by rfl, ?_⟩) (by assumption) ?_
        rotate_left
        · (intro w' hSw; go_simp; try with_reducible rfl)
        (try simp only [List.getElem_toArray]); (try simp only [List.getElem_cons_succ]); (try simp only [List.getElem_cons_zero]); (try simp only [Act.put]); (try simp only [List.setIfInBounds_toArray]); (try simp only [List.set_cons_succ]); (try simp only [List.set_cons_zero])
        refine wpAnyH_take (i := 14) (v := ?_) rfl (by kernel_rfl) (by kernel_rfl) (by kernel_rfl) (fun _ _ _ h => h) (Or.inl ⟨by rfl, ?_⟩) (by assumption) ?_
        rotate_left
        · (intro w' hSw; go_simp; try with_reducible rfl)
        (try simp only [List.getElem_toArray]); (try simp only [List.getElem_cons_succ]); (try simp only [List.getElem_cons_zero]); (try simp only [Act.put]); (try simp only [List.setIfInBounds_toArray]); (try simp only [List.set_cons_succ]); (try simp only [List.set_cons_zero])
        refine wpAnyH_take (i := 15) (v := ?_) rfl (by kernel_rfl) (by kernel_rfl) (by kernel_rfl) (fun _ _ _ h => h) (Or.inl ⟨by rfl, ?_⟩) (by assumption) ?_
        rotate_left
        · (intro w' hSw; go_simp; try with_reducible rfl)
        (try simp only [List.getElem_toArray]); (try simp only [List.getElem_cons_succ]); (try simp only [List.getElem_cons_zero]); (try simp only [Act.put]); (try simp only [List.setIfInBounds_toArray]); (try simp only [List.set_cons_succ]); (try simp only [List.set_cons_zero])
        refine wpAnyH_take (i := 16) (v := ?_) rfl (by kernel_rfl) (by kernel_rfl) (by kernel_rfl) (fun _ _ _ h => h) (Or.inl ⟨by rfl, ?_⟩) (by assumption) ?_
        rotate_left
        · (intro w' hSw; go_simp; try with_reducible rfl)
        (try simp only [List.getElem_toArray]); (try simp only [List.getElem_cons_succ]); (try simp only [List.getElem_cons_zero]); (try simp only [Act.put]); (try simp only [List.setIfInBounds_toArray]); (try simp only [List.set_cons_succ]); (try simp only [List.set_cons_zero])
        refine wpAnyH_take (i := 18) (v := ?_) rfl (by kernel_rfl) (by kernel_rfl) (by kernel_rfl) (fun _ _ _ h => h) (Or.inl ⟨by rfl, ?_⟩) (by assumption) ?_
        rotate_left
        · (intro w' hSw; go_simp; try with_reducible rfl)
        (try simp only [List.getElem_toArray]); (try simp only [List.getElem_cons_succ]); (try simp only [List.getElem_cons_zero]); (try simp only [Act.put]); (try simp only [List.setIfInBounds_toArray]); (try simp only [List.set_cons_succ]); (try simp only [List.set_cons_zero])
        refine wpAnyH_take (i := 19) (v := ?_) rfl (by kernel_rfl) (by kernel_rfl) (by kernel_rfl) (fun _ _ _ h => h) (Or.inl ⟨by rfl, ?_⟩) (by assumption) ?_
        rotate_left
        · (intro w' hSw; go_simp; try with_reducible rfl)
        (try simp only [List.getElem_toArray]); (try simp only [List.getElem_cons_succ]); (try simp only [List.getElem_cons_zero]); (try simp only [Act.put]); (try simp only [List.setIfInBounds_toArray]); (try simp only [List.set_cons_succ]); (try simp only [List.set_cons_zero])
        refine wpAnyH_ready (rs := [17]) (by kernel_rfl) (by simp) ?_
        refine AllReadyH.cons rfl (fun K hK => ?_) AllReadyH.nil
        go_simp
        go_at_call 22
        refine (implPointsCovered_any A4 C4 na4 nc4 ca4 cc4 L4 R4 z4 _ (hA4.up hV4) (hC4.up hV4) (by omega) (by omega)).mono ?_
        rintro e w404 ⟨rfl, hb404⟩
        have hV5 := Up.then_ hV4 hb404
        go_wp2_with fail
        refine hK.out _ _ (by exact ⟨hV5, fun _ _ hb => hV5.cell hb⟩) (fun hHeld5 => ?_)
        clear hK K
        (try simp only [List.getElem_toArray]); (try simp only [List.getElem_cons_succ]); (try simp only [List.getElem_cons_zero]); (try simp only [Act.put]); (try simp only [List.setIfInBounds_toArray]); (try simp only [List.set_cons_succ]); (try simp only [List.set_cons_zero])
        refine wpAnyH_ready (rs := [20]) (by kernel_rfl) (by simp) ?_
        refine AllReadyH.cons rfl (fun K hK => ?_) AllReadyH.nil
        go_simp
        go_at_call 31
        refine (specPointsCovered_any A4 C4 na4 nc4 ca4 cc4 L4 R4 z4 _ (hA4.up hV5) (hC4.up hV5) (by omega) (by omega)).mono ?_
        rintro e w405 ⟨rfl, hb405⟩
        have hV6 := Up.then_ hV5 hb405
        go_wp2_with fail
        refine hK.out _ _ (by exact ⟨hV6, fun _ _ hb => hV6.cell hb⟩) (fun hHeld6 => ?_)
        clear hK K
        (try simp only [List.getElem_toArray]); (try simp only [List.getElem_cons_succ]); (try simp only [List.getElem_cons_zero]); (try simp only [Act.put]); (try simp only [List.setIfInBounds_toArray]); (try simp only [List.set_cons_succ]); (try simp only [List.set_cons_zero])
        refine wpAnyH_take (i := 21) (v := ?_) rfl (by kernel_rfl) (by kernel_rfl) (by kernel_rfl) (fun _ _ _ h => h) (Or.inl ⟨by rfl, ?_⟩) (by assumption) ?_
        rotate_left
        · (intro w' hSw; go_simp; try with_reducible rfl)
        (try simp only [List.getElem_toArray]); (try simp only [List.getElem_cons_succ]); (try simp only [List.getElem_cons_zero]); (try simp only [Act.put]); (try simp only [List.setIfInBounds_toArray]); (try simp only [List.set_cons_succ]); (try simp only [List.set_cons_zero])
        refine wpAnyH_take (i := 22) (v := ?_) rfl (by kernel_rfl) (by kernel_rfl) (by kernel_rfl) (fun _ _ _ h => h) (Or.inl ⟨by rfl, ?_⟩) (by assumption) ?_
        rotate_left
        · (intro w' hSw; go_simp; try with_reducible rfl)
        (try simp only [List.getElem_toArray]); (try simp only [List.getElem_cons_succ]); (try simp only [List.getElem_cons_zero]); (try simp only [Act.put]); (try simp only [List.setIfInBounds_toArray]); (try simp only [List.set_cons_succ]); (try simp only [List.set_cons_zero])
        refine wpAnyH_take (i := 23) (v := ?_) rfl (by kernel_rfl) (by kernel_rfl) (by kernel_rfl) (fun _ _ _ h => h) (Or.inl ⟨by rfl, ?_⟩) (by assumption) ?_
        rotate_left
        · (intro w' hSw; go_simp; try with_reducible rfl)
        (try simp only [List.getElem_toArray]); (try simp only [List.getElem_cons_succ]); (try simp only [List.getElem_cons_zero]); (try simp only [Act.put]); (try simp only [List.setIfInBounds_toArray]); (try simp only [List.set_cons_succ]); (try simp only [List.set_cons_zero])
        refine wpAnyH_done (by kernel_rfl) ?_ _
        have hU40 := hV6
        go_wp2
        go_ret
        exact ⟨rfl, Up.then_ hw35 hU40⟩
  · go_enter Tryz.func3, Tryz.ntmps3
    go_wp2_with fail
    refine (big_yes B n c _ (by omega) hn).mono ?_
    rintro e w1 ⟨rfl, hb1⟩
    have hU1 : Up w w1 := Up.then_ (by go_grown) hb1
    go_wp2
    go_ret
    exact ⟨rfl, hU1⟩
end Go.Proofs.YthncdjcmlpiebaaGreatDoor
