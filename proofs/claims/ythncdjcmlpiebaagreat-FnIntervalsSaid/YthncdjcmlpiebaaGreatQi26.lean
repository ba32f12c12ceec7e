/- The law FnIntervals: its walk. -/
import Derived.Test.YthncdjcmlpiebaaGreatQi18
import Derived.Test.YthncdjcmlpiebaaGreatQi19
import Derived.Test.YthncdjcmlpiebaaGreatQi20
import Derived.Test.YthncdjcmlpiebaaGreatQi22
import Derived.Test.YthncdjcmlpiebaaGreatQi23
import Derived.Test.YthncdjcmlpiebaaGreatQi24
import Derived.Test.YthncdjcmlpiebaaGreatQi25
namespace Go.Proofs.YthncdjcmlpiebaaGreat
open Go.RowKit
set_option maxRecDepth 100000 in
/-- What the law asks of a drawn graph. -/
theorem intervals_facts {N : Int} {X : List Int} (h6 : X.length ≤ 6) :
    ((isGraph N X = true ∧ (ordOf N X).isSome = true ∧ (ivObsOf N X).isSome = false) ∨ (isGraph N X = true ∧ (ordOf N X).isSome = false ∧ (ivObsOf N X).isSome = true) ∨ (isGraph N X = false ∧ (ordOf N X).isSome = false ∧ (ivObsOf N X).isSome = false)) ∧
    ((ivObsOf N X).isSome = true → isIvObs N X (optL (ivObsOf N X)) = true) ∧
    ((ordOf N X).isSome = true → isCliqOrd N X (optL (ordOf N X)) = true ∧ isModelOf N X (ivmOf N X).1 (ivmOf N X).2.1 = true ∧ 1 ≤ min (cliqOrds N X).length 1000) ∧ (ivmOf N X).2.2 = (ordOf N X).isSome := by
  have hno : isGraph N X = false → ordOf N X = none := fun hg => by
    rw [ordOf, cliqOrds_no (by rw [elimOf_no hg]; rfl)]; rfl
  refine ⟨?_, fun e => ?_, fun e => ?_, ?_⟩
  · rcases Bool.eq_false_or_eq_true (isGraph N X) with hg | hg
    · have := iv_law hg h6
      cases hu : (ordOf N X).isSome
      · rw [hu] at this
        exact .inr (.inl ⟨hg, rfl, this⟩)
      · rw [hu] at this
        exact .inl ⟨hg, rfl, this⟩
    · refine .inr (.inr ⟨hg, by rw [hno hg]; rfl, ?_⟩)
      rw [ivObsOf, holeOf_no hg, tripOf_no hg]; rfl
  · obtain ⟨p, hp⟩ := Option.isSome_iff_exists.1 e
    have := ivObs_holds hp
    rw [hp]; exact this
  · obtain ⟨q, hq⟩ := Option.isSome_iff_exists.1 e
    obtain ⟨h1, h2, h3, _⟩ := ord_model hq
    refine ⟨by rw [hq]; exact h1, by rw [ivmOf_some hq]; exact h3, ?_⟩
    rw [ordOf] at hq
    rcases hc : cliqOrds N X with _ | ⟨x, xs⟩
    · rw [hc] at hq; cases hq
    · rw [List.length_cons]; omega
  · rcases hq : ordOf N X with _ | q
    · rw [ivmOf_none hq]; rfl
    · rw [ivmOf_some hq]
      exact (ord_model hq).2.1
set_option maxRecDepth 100000 in
theorem tripPaths_rows {N : Int} {X : List Int} {a b c : Int} {ps : List RowP} (h : ps.map Prod.snd = tripPaths N X a b c) : ∀ p ∈ ps, p.2.length ≤ 1048576 := fun p hp => by
  have h1 : p.2 ∈ ps.map Prod.snd := List.mem_map.2 ⟨p, hp, rfl⟩
  rw [h] at h1
  rcases Bool.eq_false_or_eq_true (isTrip N X a b c) with e | e
  · rw [tripPaths_yes e] at h1
    simp only [List.mem_cons, List.not_mem_nil, or_false] at h1
    rcases h1 with h1 | h1 | h1 <;> rw [h1]
    · have := avoid_len N X a b c; omega
    · have := avoid_len N X b c a; omega
    · have := avoid_len N X c a b; omega
  · rw [tripPaths_no e] at h1; cases h1
set_option maxRecDepth 100000 in
theorem trip_len7 (N : Int) (X : List Int) : (optL (tripOf N X)).length ≤ 7 := by
  rcases hu : tripOf N X with _ | o
  · simp [optL, ints]
  · have := tripOf_len hu
    rw [optL, ints_len]
    show o.length ≤ 7
    omega
set_option maxRecDepth 100000 in
set_option maxHeartbeats 16000000 in
theorem lawIntervals_any (B : Option Addr) (n c : Nat) (bs : List Int) (w : World) (hB : RB w B n bs) (hlow : ∀ ad, B = some ad → ad.block < w.heap.size) (hn : n ≤ 9223372036854775807) :
    Calls Tryz.prog 4 #[.slice B n c] w fun e w' => e = .returned (.bool true) ∧ Below w.heap.size w w' := by
  by_cases hs : n ≤ 1048576
  · go_enter Tryz.func4, Tryz.ntmps4
    go_wp2_with fail
    refine (big_no B n c _ hs).mono ?_
    rintro e w1 ⟨rfl, hb1⟩
    have hU1 : Up w w1 := Up.then_ (by go_grown) hb1
    replace hB := hB.up hU1
    have hlow1 : ∀ ad, B = some ad → ad.block < w1.heap.size := fun ad e => by have := hlow ad e; have := hU1.size; omega
    have hw1 : Below w.heap.size w w1 := hU1
    go_wp2_with fail
    refine (drawIsInterval_any B n c bs _ hB hs hlow1).mono ?_
    rintro e w2 ⟨N, A, m, d, X, rfl, hX, hle, hb2⟩
    have hU2 : Up w1 w2 := Up.then_ (by go_grown) hb2
    replace hB := hB.up hU2
    have hw2 := Up.then_ hw1 hU2
    have hm6 : m ≤ 6 := by rw [← hX.len]; exact hle
    replace hX := hX.ri
    clear hU1 hb1 hlow1
    have hU3 : Up w2 (w2.alloc (.cells #[.int .i64 N, .slice A m d] 26)) := by go_grown
    have hG := Blk.new w2 26 #[.int .i64 N, .slice A m d]
    have hw3 := Up.then_ hw2 hU3
    replace hX := hX.up hU3
    replace hB := hB.up hU3
    obtain ⟨g3, hg3⟩ : ∃ g3, g3 = w2.heap.size := ⟨_, rfl⟩
    rw [← hg3] at hG
    go_wp2_with fail
    rw [← hg3]
    generalize w2.alloc (.cells #[.int .i64 N, .slice A m d] 26) = w3 at hG hX hB hw3 ⊢
    clear hg3 hU3
    have yhG := hG.two
    have lhG := hG.lt
    clear hU2 hb2 hw1 hw2
    have hFA := intervals_facts (N := N) (X := X) hle
    have hll := ord_len7 N X
    have hul := ivm_len7 N X
    have hpl := ivObs_len7 N X
    clear hle
    obtain ⟨l, hl⟩ : ∃ l, l = optL (ordOf N X) := ⟨_, rfl⟩
    obtain ⟨is, his⟩ : ∃ is, is = (ordOf N X).isSome := ⟨_, rfl⟩
    obtain ⟨ul, hul1⟩ : ∃ ul, ul = (ivmOf N X).1 := ⟨_, rfl⟩
    obtain ⟨ur, hur1⟩ : ∃ ur, ur = (ivmOf N X).2.1 := ⟨_, rfl⟩
    obtain ⟨ob, hob⟩ : ∃ ob, ob = optL (ivObsOf N X) := ⟨_, rfl⟩
    obtain ⟨bad, hbad⟩ : ∃ bad, bad = (ivObsOf N X).isSome := ⟨_, rfl⟩
    obtain ⟨ig, hig⟩ : ∃ ig, ig = isGraph N X := ⟨_, rfl⟩
    obtain ⟨ct, hct⟩ : ∃ ct, ct = min (cliqOrds N X).length 1000 := ⟨_, rfl⟩
    have hone := hFA.2.2.2
    rw [← his] at hone
    have HUimpl : ∀ w', RI w' A m X → Calls Tryz.prog 30 #[.agg #[.int .i64 N, .slice A m d]] w' (GivesIB l is w') := fun w' h => by rw [hl, his]; exact implCliqueOrderOf_any N A m d X w' h (by omega)
    have HMimpl : ∀ w', RI w' A m X → Calls Tryz.prog 32 #[.agg #[.int .i64 N, .slice A m d]] w' (GivesTB ul ur is w') := fun w' h => by rw [hul1, hur1, ← hone]; exact implIntervalModelOf_any N A m d X w' h (by omega)
    have HOimpl : ∀ w', RI w' A m X → Calls Tryz.prog 38 #[.agg #[.int .i64 N, .slice A m d]] w' (GivesIB ob bad w') := fun w' h => by rw [hob, hbad]; exact implIntervalObstacle_any N A m d X w' h (by omega)
    have HCimpl : ∀ w', RI w' A m X → Calls Tryz.prog 36 #[.agg #[.int .i64 N, .slice A m d]] w' (fun e w'' => e = .returned (.int .i64 (ct : Nat)) ∧ Below w'.heap.size w' w'') := fun w' h => by rw [hct]; exact implCountCliqueOrders_any N A m d X w' h (by omega)
    have HUspec : ∀ w', RI w' A m X → Calls Tryz.prog 31 #[.agg #[.int .i64 N, .slice A m d]] w' (GivesIB l is w') := fun w' h => by rw [hl, his]; exact specCliqueOrderOf_any N A m d X w' h (by omega)
    have HMspec : ∀ w', RI w' A m X → Calls Tryz.prog 33 #[.agg #[.int .i64 N, .slice A m d]] w' (GivesTB ul ur is w') := fun w' h => by rw [hul1, hur1, ← hone]; exact specIntervalModelOf_any N A m d X w' h (by omega)
    have HOspec : ∀ w', RI w' A m X → Calls Tryz.prog 39 #[.agg #[.int .i64 N, .slice A m d]] w' (GivesIB ob bad w') := fun w' h => by rw [hob, hbad]; exact specIntervalObstacle_any N A m d X w' h (by omega)
    have HCspec : ∀ w', RI w' A m X → Calls Tryz.prog 37 #[.agg #[.int .i64 N, .slice A m d]] w' (fun e w'' => e = .returned (.int .i64 (ct : Nat)) ∧ Below w'.heap.size w' w'') := fun w' h => by rw [hct]; exact specCountCliqueOrders_any N A m d X w' h (by omega)
    have HP : ∀ w', RI w' A m X → Calls Tryz.prog 34 #[.agg #[.int .i64 N, .slice A m d]] w' (fun e w'' => e = .returned (.bool is) ∧ Below w'.heap.size w' w'') := fun w' h => by rw [his]; exact implIsInterval_any N A m d X w' h (by omega)
    have HI : ∀ w', RI w' A m X → Calls Tryz.prog 16 #[.agg #[.int .i64 N, .slice A m d]] w' (fun e w'' => e = .returned (.bool ig) ∧ Below w'.heap.size w' w'') := fun w' h => by rw [hig]; exact specIsGraph_any N A m d X w' h (by omega)
    rw [← hl] at hll hFA
    rw [← hob] at hpl hFA
    rw [← hul1, ← hur1] at hul hFA
    rw [← his, ← hbad, ← hig, ← hct] at hFA
    have HFA := Lib.hid hFA
    clear hl his hul1 hur1 hob hbad hig hone hFA hct
    go_wp2_with fail
    refine (HUimpl _ hX).mono ?_
    rintro e w4 ⟨A4, c4, rfl, hO4, hb4⟩
    have hU4 : Up w3 w4 := Up.then_ (by go_grown) hb4
    replace hB := hB.up hU4
    replace hX := hX.up hU4
    replace hG := hG.up hU4
    replace yhG := hG.two
    replace lhG := hG.lt
    have hw4 := Up.then_ hw3 hU4
    replace hO4 := hO4.ri
    replace yhG := hG.two
    replace lhG := hG.lt
    go_wp2_with fail
    refine (HUspec _ hX).mono ?_
    rintro e w5 ⟨A5, c5, rfl, hO5, hb5⟩
    have hU5 : Up w4 w5 := Up.then_ (by go_grown) hb5
    replace hB := hB.up hU5
    replace hX := hX.up hU5
    replace hG := hG.up hU5
    replace hO4 := hO4.up hU5
    replace yhG := hG.two
    replace lhG := hG.lt
    have hw5 := Up.then_ hw4 hU5
    replace hO5 := hO5.ri
    replace yhG := hG.two
    replace lhG := hG.lt
    clear HUimpl HUspec hU4 hU5 hb4 hb5 hw3 hw4
    go_wp2_with fail
    refine (HMimpl _ hX).mono ?_
    rintro e w6 ⟨A6, c6, C6, d6, rfl, hP6, hQ6, hap6, hb6⟩
    have hU6 : Up w5 w6 := Up.then_ (by go_grown) hb6
    replace hB := hB.up hU6
    replace hX := hX.up hU6
    replace hG := hG.up hU6
    replace hO4 := hO4.up hU6
    replace hO5 := hO5.up hU6
    replace yhG := hG.two
    replace lhG := hG.lt
    have hw6 := Up.then_ hw5 hU6
    replace hP6 := hP6.ri
    replace hQ6 := hQ6.ri
    clear hap6
    have hU7 : Up w6 (w6.alloc (.cells #[.slice A6 ul.length c6, .slice C6 ur.length d6] 31)) := by go_grown
    have hG7 := Blk.new w6 31 #[.slice A6 ul.length c6, .slice C6 ur.length d6]
    have hw7 := Up.then_ hw6 hU7
    replace hX := hX.up hU7
    replace hB := hB.up hU7
    replace hG := hG.up hU7
    replace hO4 := hO4.up hU7
    replace hO5 := hO5.up hU7
    replace hP6 := hP6.up hU7
    replace hQ6 := hQ6.up hU7
    obtain ⟨g7, hg7⟩ : ∃ g7, g7 = w6.heap.size := ⟨_, rfl⟩
    rw [← hg7] at hG7
    go_wp2_with fail
    rw [← hg7]
    generalize w6.alloc (.cells #[.slice A6 ul.length c6, .slice C6 ur.length d6] 31) = w7 at hG7 hX hB hG hO4 hO5 hP6 hQ6 hw7 ⊢
    clear hg7 hU7
    have yhG := hG.two
    have lhG := hG.lt
    have yhG7 := hG7.two
    have lhG7 := hG7.lt
    clear hU6 hb6 hw5 hw6
    go_wp2_with fail
    refine (HMspec _ hX).mono ?_
    rintro e w8 ⟨A8, c8, C8, d8, rfl, hP8, hQ8, hap8, hb8⟩
    have hU8 : Up w7 w8 := Up.then_ (by go_grown) hb8
    replace hB := hB.up hU8
    replace hX := hX.up hU8
    replace hG := hG.up hU8
    replace hO4 := hO4.up hU8
    replace hO5 := hO5.up hU8
    replace hG7 := hG7.up hU8
    replace hP6 := hP6.up hU8
    replace hQ6 := hQ6.up hU8
    replace yhG := hG.two
    replace lhG := hG.lt
    replace yhG7 := hG7.two
    replace lhG7 := hG7.lt
    have hw8 := Up.then_ hw7 hU8
    replace hP8 := hP8.ri
    replace hQ8 := hQ8.ri
    clear hap8
    have hU9 : Up w8 (w8.alloc (.cells #[.slice A8 ul.length c8, .slice C8 ur.length d8] 31)) := by go_grown
    have hG9 := Blk.new w8 31 #[.slice A8 ul.length c8, .slice C8 ur.length d8]
    have hw9 := Up.then_ hw8 hU9
    replace hX := hX.up hU9
    replace hB := hB.up hU9
    replace hG := hG.up hU9
    replace hO4 := hO4.up hU9
    replace hO5 := hO5.up hU9
    replace hP6 := hP6.up hU9
    replace hQ6 := hQ6.up hU9
    replace hG7 := hG7.up hU9
    replace hP8 := hP8.up hU9
    replace hQ8 := hQ8.up hU9
    obtain ⟨g9, hg9⟩ : ∃ g9, g9 = w8.heap.size := ⟨_, rfl⟩
    rw [← hg9] at hG9
    go_wp2_with fail
    rw [← hg9]
    generalize w8.alloc (.cells #[.slice A8 ul.length c8, .slice C8 ur.length d8] 31) = w9 at hG9 hX hB hG hO4 hO5 hP6 hQ6 hG7 hP8 hQ8 hw9 ⊢
    clear hg9 hU9
    have yhG := hG.two
    have lhG := hG.lt
    have yhG7 := hG7.two
    have lhG7 := hG7.lt
    have yhG9 := hG9.two
    have lhG9 := hG9.lt
    clear hU8 hb8 hw7 hw8 HMimpl HMspec
    obtain ⟨hcs, hpo, hum, _⟩ := HFA.out
    clear HFA
    go_wp2_with fail
    rcases hcs with ⟨rfl, rfl, rfl⟩ | ⟨rfl, rfl, rfl⟩ | ⟨rfl, rfl, rfl⟩
    case' inl =>
      obtain ⟨a1, a2, a3⟩ := hum rfl
      clear hpo hum
      have JU : ∀ w', RI w' A m X → RI w' A5 l.length l → Calls Tryz.prog 35 #[.agg #[.int .i64 N, .slice A m d], .slice A5 l.length c5] w' (fun e w'' => e = .returned (.bool true) ∧ Below w'.heap.size w' w'') := fun w' h h2 => by rw [← a1]; exact implIsCliqueOrder_any N A A5 m d l.length c5 X l w' h h2 (by omega) (by omega)
      have JO : ∀ w', RI w' A m X → RI w' A8 ul.length ul → RI w' C8 ur.length ur → Calls Tryz.prog 20 #[.agg #[.int .i64 N, .slice A m d], .agg #[.slice A8 ul.length c8, .slice C8 ur.length d8]] w' (fun e w'' => e = .returned (.bool true) ∧ Below w'.heap.size w' w'') := fun w' h0 h h2 => by rw [← a2]; exact implIsModelOf_any N A m d X A8 C8 ul.length ur.length c8 d8 ul ur w' h0 h h2 (by omega) (by omega)
      have hct1 : ¬ (((ct : Nat) : Int) < 1) := by omega
      clear a1 a2 a3
      have hV0 : Up w9 w9.drew := (Up.refl _).drew
      refine wp_region_held_drew (S := (fun w' => Up w9 w' ∧ (∀ b o, b < w9.heap.size → w'.cell? ⟨b, o, none⟩ = w9.cell? ⟨b, o, none⟩))) (by kernel_rfl) (by exact ⟨hV0, fun _ _ hb => hV0.cell hb⟩) (fun hHeld => ?_)
      refine wpAnyH_take (i := 0) (v := ?_) rfl (by kernel_rfl) (by kernel_rfl) (by kernel_rfl) (fun _ _ _ h => h) (Or.inl ⟨by rfl, ?_⟩) (by assumption) ?_
      rotate_left
      · (intro w' hSw; go_simp; try with_reducible rfl)
      (try simp only [List.getElem_toArray]); (try simp only [List.getElem_cons_succ]); (try simp only [List.getElem_cons_zero]); (try simp only [Act.put]); (try simp only [List.setIfInBounds_toArray]); (try simp only [List.set_cons_succ]); (try simp only [List.set_cons_zero])
      refine wpAnyH_take (i := 1) (v := ?_) rfl (by kernel_rfl) (by kernel_rfl) (by kernel_rfl) (fun _ _ _ h => h) (Or.inl ⟨by rfl, ?_⟩) (by assumption) ?_
      rotate_left
      · (intro w' hSw; go_simp; try with_reducible rfl)
      (try simp only [List.getElem_toArray]); (try simp only [List.getElem_cons_succ]); (try simp only [List.getElem_cons_zero]); (try simp only [Act.put]); (try simp only [List.setIfInBounds_toArray]); (try simp only [List.set_cons_succ]); (try simp only [List.set_cons_zero])
      refine wpAnyH_take (i := 2) (v := ?_) rfl (by kernel_rfl) (by kernel_rfl) (by kernel_rfl) (fun _ _ _ h => h) (Or.inl ⟨by rfl, ?_⟩) (by assumption) ?_
      rotate_left
      · (intro w' hSw; go_simp; try with_reducible rfl)
      (try simp only [List.getElem_toArray]); (try simp only [List.getElem_cons_succ]); (try simp only [List.getElem_cons_zero]); (try simp only [Act.put]); (try simp only [List.setIfInBounds_toArray]); (try simp only [List.set_cons_succ]); (try simp only [List.set_cons_zero])
      refine wpAnyH_take (i := 3) (v := ?_) rfl (by kernel_rfl) (by kernel_rfl) (by kernel_rfl) (fun _ _ _ h => h) (Or.inl ⟨by rfl, ?_⟩) (by assumption) ?_
      rotate_left
      · (intro w' hSw; go_simp; try with_reducible rfl)
      (try simp only [List.getElem_toArray]); (try simp only [List.getElem_cons_succ]); (try simp only [List.getElem_cons_zero]); (try simp only [Act.put]); (try simp only [List.setIfInBounds_toArray]); (try simp only [List.set_cons_succ]); (try simp only [List.set_cons_zero])
      refine wpAnyH_take (i := 4) (v := ?_) rfl (by kernel_rfl) (by kernel_rfl) (by kernel_rfl) (fun _ _ _ h => h) (Or.inl ⟨by rfl, ?_⟩) (by assumption) ?_
      rotate_left
      · (intro w' hSw; go_simp; try with_reducible rfl)
      (try simp only [List.getElem_toArray]); (try simp only [List.getElem_cons_succ]); (try simp only [List.getElem_cons_zero]); (try simp only [Act.put]); (try simp only [List.setIfInBounds_toArray]); (try simp only [List.set_cons_succ]); (try simp only [List.set_cons_zero])
      refine wpAnyH_take (i := 5) (v := ?_) rfl (by kernel_rfl) (by kernel_rfl) (by kernel_rfl) (fun _ _ _ h => h) (Or.inl ⟨by rfl, ?_⟩) (by assumption) ?_
      rotate_left
      · (intro w' hSw; go_simp; try with_reducible rfl)
      (try simp only [List.getElem_toArray]); (try simp only [List.getElem_cons_succ]); (try simp only [List.getElem_cons_zero]); (try simp only [Act.put]); (try simp only [List.setIfInBounds_toArray]); (try simp only [List.set_cons_succ]); (try simp only [List.set_cons_zero])
      refine wpAnyH_ready (rs := [6]) (by kernel_rfl) (by simp) ?_
      refine AllReadyH.cons rfl (fun K hK => ?_) AllReadyH.nil
      go_simp
      go_at_call 13
      refine (sameInts_up (hO4.up hV0) (hO5.up hV0) (by omega)).mono ?_
      rintro e w120 ⟨rfl, hb120⟩
      have hV1 := Up.then_ hV0 hb120
      go_wp2_with fail
      refine hK.out _ _ (by exact ⟨hV1, fun _ _ hb => hV1.cell hb⟩) (fun hHeld1 => ?_)
      clear hK K
      (try simp only [List.getElem_toArray]); (try simp only [List.getElem_cons_succ]); (try simp only [List.getElem_cons_zero]); (try simp only [Act.put]); (try simp only [List.setIfInBounds_toArray]); (try simp only [List.set_cons_succ]); (try simp only [List.set_cons_zero])
      refine wpAnyH_take (i := 7) (v := ?_) rfl (by kernel_rfl) (by kernel_rfl) (by kernel_rfl) (fun _ _ _ h => h) (Or.inl ⟨by rfl, ?_⟩) (by assumption) ?_
      rotate_left
      · (intro w' hSw; go_simp; try with_reducible rfl)
      (try simp only [List.getElem_toArray]); (try simp only [List.getElem_cons_succ]); (try simp only [List.getElem_cons_zero]); (try simp only [Act.put]); (try simp only [List.setIfInBounds_toArray]); (try simp only [List.set_cons_succ]); (try simp only [List.set_cons_zero])
      refine wpAnyH_take (i := 8) (v := ?_) rfl (by kernel_rfl) (by kernel_rfl) (by kernel_rfl) (fun _ _ _ h => h) (Or.inl ⟨by rfl, ?_⟩) (by assumption) ?_
      rotate_left
      · (intro w' hSw; go_simp; try with_reducible rfl)
      (try simp only [List.getElem_toArray]); (try simp only [List.getElem_cons_succ]); (try simp only [List.getElem_cons_zero]); (try simp only [Act.put]); (try simp only [List.setIfInBounds_toArray]); (try simp only [List.set_cons_succ]); (try simp only [List.set_cons_zero])
      refine wpAnyH_take (i := 9) (v := ?_) rfl (by kernel_rfl) (by kernel_rfl) (by kernel_rfl) (fun _ _ _ h => h) (Or.inl ⟨by rfl, ?_⟩) (by assumption) ?_
      rotate_left
      · (intro w' hSw; go_simp; try with_reducible rfl)
      (try simp only [List.getElem_toArray]); (try simp only [List.getElem_cons_succ]); (try simp only [List.getElem_cons_zero]); (try simp only [Act.put]); (try simp only [List.setIfInBounds_toArray]); (try simp only [List.set_cons_succ]); (try simp only [List.set_cons_zero])
      refine wpAnyH_take (i := 10) (v := ?_) rfl (by kernel_rfl) (by kernel_rfl) (by kernel_rfl) (fun _ _ _ h => h) (Or.inl ⟨by rfl, ?_⟩) (by assumption) ?_
      rotate_left
      · (intro w' hSw; go_simp; try with_reducible rfl)
      (try simp only [List.getElem_toArray]); (try simp only [List.getElem_cons_succ]); (try simp only [List.getElem_cons_zero]); (try simp only [Act.put]); (try simp only [List.setIfInBounds_toArray]); (try simp only [List.set_cons_succ]); (try simp only [List.set_cons_zero])
      refine wpAnyH_take (i := 11) (v := ?_) rfl (by kernel_rfl) (by kernel_rfl) (by kernel_rfl) (fun _ _ _ h => h) (Or.inl ⟨by rfl, ?_⟩) (by assumption) ?_
      rotate_left
      · (intro w' hSw; go_simp; try with_reducible rfl)
      (try simp only [List.getElem_toArray]); (try simp only [List.getElem_cons_succ]); (try simp only [List.getElem_cons_zero]); (try simp only [Act.put]); (try simp only [List.setIfInBounds_toArray]); (try simp only [List.set_cons_succ]); (try simp only [List.set_cons_zero])
      refine wpAnyH_take (i := 12) (v := ?_) rfl (by kernel_rfl) (by kernel_rfl) (by kernel_rfl) (fun _ _ _ h => h) (Or.inl ⟨by rfl, ?_⟩) (by assumption) ?_
      rotate_left
      · (intro w' hSw; go_simp; try with_reducible rfl)
      (try simp only [List.getElem_toArray]); (try simp only [List.getElem_cons_succ]); (try simp only [List.getElem_cons_zero]); (try simp only [Act.put]); (try simp only [List.setIfInBounds_toArray]); (try simp only [List.set_cons_succ]); (try simp only [List.set_cons_zero])
      refine wpAnyH_take (i := 13) (v := ?_) rfl (by kernel_rfl) (by kernel_rfl) (by kernel_rfl) (fun _ _ _ h => h) (Or.inl ⟨by rfl, ?_⟩) (by assumption) ?_
      rotate_left
      · (intro w' hSw; go_simp; try with_reducible rfl)
      (try simp only [List.getElem_toArray]); (try simp only [List.getElem_cons_succ]); (try simp only [List.getElem_cons_zero]); (try simp only [Act.put]); (try simp only [List.setIfInBounds_toArray]); (try simp only [List.set_cons_succ]); (try simp only [List.set_cons_zero])
      refine wpAnyH_take (i := 14) (v := ?_) rfl (by kernel_rfl) (by kernel_rfl) (by kernel_rfl) (fun _ _ _ h => h) (Or.inl ⟨by rfl, ?_⟩) (by assumption) ?_
      rotate_left
      · (intro w' hSw; go_simp; try with_reducible rfl)
      (try simp only [List.getElem_toArray]); (try simp only [List.getElem_cons_succ]); (try simp only [List.getElem_cons_zero]); (try simp only [Act.put]); (try simp only [List.setIfInBounds_toArray]); (try simp only [List.set_cons_succ]); (try simp only [List.set_cons_zero])
      refine wpAnyH_take (i := 15) (v := ?_) rfl (by kernel_rfl) (by kernel_rfl) (by kernel_rfl) (fun _ _ _ h => h) (Or.inl ⟨by rfl, ?_⟩) (by assumption) ?_
      rotate_left
      · (intro w' hSw; go_simp; try with_reducible rfl)
      (try simp only [List.getElem_toArray]); (try simp only [List.getElem_cons_succ]); (try simp only [List.getElem_cons_zero]); (try simp only [Act.put]); (try simp only [List.setIfInBounds_toArray]); (try simp only [List.set_cons_succ]); (try simp only [List.set_cons_zero])
      refine wpAnyH_take (i := 16) (v := ?_) rfl (by kernel_rfl) (by kernel_rfl) (by kernel_rfl) (fun _ _ _ h => h) (Or.inl ⟨by rfl, ?_⟩) (by assumption) ?_
      rotate_left
      · (intro w' hSw; go_simp; try with_reducible rfl)
      (try simp only [List.getElem_toArray]); (try simp only [List.getElem_cons_succ]); (try simp only [List.getElem_cons_zero]); (try simp only [Act.put]); (try simp only [List.setIfInBounds_toArray]); (try simp only [List.set_cons_succ]); (try simp only [List.set_cons_zero])
      refine wpAnyH_ready (rs := [17]) (by kernel_rfl) (by simp) ?_
      refine AllReadyH.cons rfl (fun K hK => ?_) AllReadyH.nil
      go_simp
      go_at_call 14
      refine (sameModel_up (hP6.up hV1) (hQ6.up hV1) (hP8.up hV1) (hQ8.up hV1) (by omega) (by omega)).mono ?_
      rintro e w121 ⟨rfl, hb121⟩
      have hV2 := Up.then_ hV1 hb121
      go_wp2_with fail
      refine hK.out _ _ (by exact ⟨hV2, fun _ _ hb => hV2.cell hb⟩) (fun hHeld2 => ?_)
      clear hK K
      (try simp only [List.getElem_toArray]); (try simp only [List.getElem_cons_succ]); (try simp only [List.getElem_cons_zero]); (try simp only [Act.put]); (try simp only [List.setIfInBounds_toArray]); (try simp only [List.set_cons_succ]); (try simp only [List.set_cons_zero])
      refine wpAnyH_take (i := 18) (v := ?_) rfl (by kernel_rfl) (by kernel_rfl) (by kernel_rfl) (fun _ _ _ h => h) (Or.inl ⟨by rfl, ?_⟩) (by assumption) ?_
      rotate_left
      · (intro w' hSw; go_simp; try with_reducible rfl)
      (try simp only [List.getElem_toArray]); (try simp only [List.getElem_cons_succ]); (try simp only [List.getElem_cons_zero]); (try simp only [Act.put]); (try simp only [List.setIfInBounds_toArray]); (try simp only [List.set_cons_succ]); (try simp only [List.set_cons_zero])
      refine wpAnyH_take (i := 19) (v := ?_) rfl (by kernel_rfl) (by kernel_rfl) (by kernel_rfl) (fun _ _ _ h => h) (Or.inl ⟨by rfl, ?_⟩) (by assumption) ?_
      rotate_left
      · (intro w' hSw; go_simp; try with_reducible rfl)
      (try simp only [List.getElem_toArray]); (try simp only [List.getElem_cons_succ]); (try simp only [List.getElem_cons_zero]); (try simp only [Act.put]); (try simp only [List.setIfInBounds_toArray]); (try simp only [List.set_cons_succ]); (try simp only [List.set_cons_zero])
      refine wpAnyH_take (i := 20) (v := ?_) rfl (by kernel_rfl) (by kernel_rfl) (by kernel_rfl) (fun _ _ _ h => h) (Or.inl ⟨by rfl, ?_⟩) (by assumption) ?_
      rotate_left
      · (intro w' hSw; go_simp; try with_reducible rfl)
      (try simp only [List.getElem_toArray]); (try simp only [List.getElem_cons_succ]); (try simp only [List.getElem_cons_zero]); (try simp only [Act.put]); (try simp only [List.setIfInBounds_toArray]); (try simp only [List.set_cons_succ]); (try simp only [List.set_cons_zero])
      refine wpAnyH_take (i := 21) (v := ?_) rfl (by kernel_rfl) (by kernel_rfl) (by kernel_rfl) (fun _ _ _ h => h) (Or.inl ⟨by rfl, ?_⟩) (by assumption) ?_
      rotate_left
      · (intro w' hSw; go_simp; try with_reducible rfl)
      (try simp only [List.getElem_toArray]); (try simp only [List.getElem_cons_succ]); (try simp only [List.getElem_cons_zero]); (try simp only [Act.put]); (try simp only [List.setIfInBounds_toArray]); (try simp only [List.set_cons_succ]); (try simp only [List.set_cons_zero])
      refine wpAnyH_take (i := 23) (v := ?_) rfl (by kernel_rfl) (by kernel_rfl) (by kernel_rfl) (fun _ _ _ h => h) (Or.inl ⟨by rfl, ?_⟩) (by assumption) ?_
      rotate_left
      · (intro w' hSw; go_simp; try with_reducible rfl)
      (try simp only [List.getElem_toArray]); (try simp only [List.getElem_cons_succ]); (try simp only [List.getElem_cons_zero]); (try simp only [Act.put]); (try simp only [List.setIfInBounds_toArray]); (try simp only [List.set_cons_succ]); (try simp only [List.set_cons_zero])
      refine wpAnyH_ready (rs := [22]) (by kernel_rfl) (by simp) ?_
      refine AllReadyH.cons rfl (fun K hK => ?_) AllReadyH.nil
      go_simp
      go_at_call 34
      refine (HP _ (hX.up hV2)).mono ?_
      rintro e w122 ⟨rfl, hb122⟩
      have hV3 := Up.then_ hV2 hb122
      go_wp2_with fail
      refine hK.out _ _ (by exact ⟨hV3, fun _ _ hb => hV3.cell hb⟩) (fun hHeld3 => ?_)
      clear hK K
      (try simp only [List.getElem_toArray]); (try simp only [List.getElem_cons_succ]); (try simp only [List.getElem_cons_zero]); (try simp only [Act.put]); (try simp only [List.setIfInBounds_toArray]); (try simp only [List.set_cons_succ]); (try simp only [List.set_cons_zero])
      refine wpAnyH_take (i := 24) (v := ?_) rfl (by kernel_rfl) (by kernel_rfl) (by kernel_rfl) (fun _ _ _ h => h) (Or.inl ⟨by rfl, ?_⟩) (by assumption) ?_
      rotate_left
      · (intro w' hSw; go_simp; try with_reducible rfl)
      (try simp only [List.getElem_toArray]); (try simp only [List.getElem_cons_succ]); (try simp only [List.getElem_cons_zero]); (try simp only [Act.put]); (try simp only [List.setIfInBounds_toArray]); (try simp only [List.set_cons_succ]); (try simp only [List.set_cons_zero])
      refine wpAnyH_take (i := 25) (v := ?_) rfl (by kernel_rfl) (by kernel_rfl) (by kernel_rfl) (fun _ _ _ h => h) (Or.inl ⟨by rfl, ?_⟩) (by assumption) ?_
      rotate_left
      · (intro w' hSw; go_simp; try with_reducible rfl)
      (try simp only [List.getElem_toArray]); (try simp only [List.getElem_cons_succ]); (try simp only [List.getElem_cons_zero]); (try simp only [Act.put]); (try simp only [List.setIfInBounds_toArray]); (try simp only [List.set_cons_succ]); (try simp only [List.set_cons_zero])
      refine wpAnyH_take (i := 26) (v := ?_) rfl (by kernel_rfl) (by kernel_rfl) (by kernel_rfl) (fun _ _ _ h => h) (Or.inl ⟨by rfl, ?_⟩) (by assumption) ?_
      rotate_left
      · (intro w' hSw; go_simp; try with_reducible rfl)
      (try simp only [List.getElem_toArray]); (try simp only [List.getElem_cons_succ]); (try simp only [List.getElem_cons_zero]); (try simp only [Act.put]); (try simp only [List.setIfInBounds_toArray]); (try simp only [List.set_cons_succ]); (try simp only [List.set_cons_zero])
      refine wpAnyH_take (i := 27) (v := ?_) rfl (by kernel_rfl) (by kernel_rfl) (by kernel_rfl) (fun _ _ _ h => h) (Or.inl ⟨by rfl, ?_⟩) (by assumption) ?_
      rotate_left
      · (intro w' hSw; go_simp; try with_reducible rfl)
      (try simp only [List.getElem_toArray]); (try simp only [List.getElem_cons_succ]); (try simp only [List.getElem_cons_zero]); (try simp only [Act.put]); (try simp only [List.setIfInBounds_toArray]); (try simp only [List.set_cons_succ]); (try simp only [List.set_cons_zero])
      refine wpAnyH_take (i := 28) (v := ?_) rfl (by kernel_rfl) (by kernel_rfl) (by kernel_rfl) (fun _ _ _ h => h) (Or.inl ⟨by rfl, ?_⟩) (by assumption) ?_
      rotate_left
      · (intro w' hSw; go_simp; try with_reducible rfl)
      (try simp only [List.getElem_toArray]); (try simp only [List.getElem_cons_succ]); (try simp only [List.getElem_cons_zero]); (try simp only [Act.put]); (try simp only [List.setIfInBounds_toArray]); (try simp only [List.set_cons_succ]); (try simp only [List.set_cons_zero])
      refine wpAnyH_take (i := 29) (v := ?_) rfl (by kernel_rfl) (by kernel_rfl) (by kernel_rfl) (fun _ _ _ h => h) (Or.inl ⟨by rfl, ?_⟩) (by assumption) ?_
      rotate_left
      · (intro w' hSw; go_simp; try with_reducible rfl)
      (try simp only [List.getElem_toArray]); (try simp only [List.getElem_cons_succ]); (try simp only [List.getElem_cons_zero]); (try simp only [Act.put]); (try simp only [List.setIfInBounds_toArray]); (try simp only [List.set_cons_succ]); (try simp only [List.set_cons_zero])
      refine wpAnyH_take (i := 30) (v := ?_) rfl (by kernel_rfl) (by kernel_rfl) (by kernel_rfl) (fun _ _ _ h => h) (Or.inl ⟨by rfl, ?_⟩) (by assumption) ?_
      rotate_left
      · (intro w' hSw; go_simp; try with_reducible rfl)
      (try simp only [List.getElem_toArray]); (try simp only [List.getElem_cons_succ]); (try simp only [List.getElem_cons_zero]); (try simp only [Act.put]); (try simp only [List.setIfInBounds_toArray]); (try simp only [List.set_cons_succ]); (try simp only [List.set_cons_zero])
      refine wpAnyH_take (i := 31) (v := ?_) rfl (by kernel_rfl) (by kernel_rfl) (by kernel_rfl) (fun _ _ _ h => h) (Or.inl ⟨by rfl, ?_⟩) (by assumption) ?_
      rotate_left
      · (intro w' hSw; go_simp; try with_reducible rfl)
      (try simp only [List.getElem_toArray]); (try simp only [List.getElem_cons_succ]); (try simp only [List.getElem_cons_zero]); (try simp only [Act.put]); (try simp only [List.setIfInBounds_toArray]); (try simp only [List.set_cons_succ]); (try simp only [List.set_cons_zero])
      refine wpAnyH_take (i := 32) (v := ?_) rfl (by kernel_rfl) (by kernel_rfl) (by kernel_rfl) (fun _ _ _ h => h) (Or.inl ⟨by rfl, ?_⟩) (by assumption) ?_
      rotate_left
      · (intro w' hSw; go_simp; try with_reducible rfl)
      (try simp only [List.getElem_toArray]); (try simp only [List.getElem_cons_succ]); (try simp only [List.getElem_cons_zero]); (try simp only [Act.put]); (try simp only [List.setIfInBounds_toArray]); (try simp only [List.set_cons_succ]); (try simp only [List.set_cons_zero])
      refine wpAnyH_take (i := 33) (v := ?_) rfl (by kernel_rfl) (by kernel_rfl) (by kernel_rfl) (fun _ _ _ h => h) (Or.inl ⟨by rfl, ?_⟩) (by assumption) ?_
      rotate_left
      · (intro w' hSw; go_simp; try with_reducible rfl)
      (try simp only [List.getElem_toArray]); (try simp only [List.getElem_cons_succ]); (try simp only [List.getElem_cons_zero]); (try simp only [Act.put]); (try simp only [List.setIfInBounds_toArray]); (try simp only [List.set_cons_succ]); (try simp only [List.set_cons_zero])
      refine wpAnyH_take (i := 34) (v := ?_) rfl (by kernel_rfl) (by kernel_rfl) (by kernel_rfl) (fun _ _ _ h => h) (Or.inl ⟨by rfl, ?_⟩) (by assumption) ?_
      rotate_left
      · (intro w' hSw; go_simp; try with_reducible rfl)
      (try simp only [List.getElem_toArray]); (try simp only [List.getElem_cons_succ]); (try simp only [List.getElem_cons_zero]); (try simp only [Act.put]); (try simp only [List.setIfInBounds_toArray]); (try simp only [List.set_cons_succ]); (try simp only [List.set_cons_zero])
      refine wpAnyH_take (i := 35) (v := ?_) rfl (by kernel_rfl) (by kernel_rfl) (by kernel_rfl) (fun _ _ _ h => h) (Or.inl ⟨by rfl, ?_⟩) (by assumption) ?_
      rotate_left
      · (intro w' hSw; go_simp; try with_reducible rfl)
      (try simp only [List.getElem_toArray]); (try simp only [List.getElem_cons_succ]); (try simp only [List.getElem_cons_zero]); (try simp only [Act.put]); (try simp only [List.setIfInBounds_toArray]); (try simp only [List.set_cons_succ]); (try simp only [List.set_cons_zero])
      refine wpAnyH_ready (rs := [36]) (by kernel_rfl) (by simp) ?_
      refine AllReadyH.cons rfl (fun K hK => ?_) AllReadyH.nil
      go_simp
      go_at_call 35
      refine (JU _ (hX.up hV3) (hO5.up hV3)).mono ?_
      rintro e w123 ⟨rfl, hb123⟩
      have hV4 := Up.then_ hV3 hb123
      go_wp2_with fail
      refine hK.out _ _ (by exact ⟨hV4, fun _ _ hb => hV4.cell hb⟩) (fun hHeld4 => ?_)
      clear hK K
      (try simp only [List.getElem_toArray]); (try simp only [List.getElem_cons_succ]); (try simp only [List.getElem_cons_zero]); (try simp only [Act.put]); (try simp only [List.setIfInBounds_toArray]); (try simp only [List.set_cons_succ]); (try simp only [List.set_cons_zero])
      refine wpAnyH_take (i := 37) (v := ?_) rfl (by kernel_rfl) (by kernel_rfl) (by kernel_rfl) (fun _ _ _ h => h) (Or.inl ⟨by rfl, ?_⟩) (by assumption) ?_
      rotate_left
      · (intro w' hSw; go_simp; try with_reducible rfl)
      (try simp only [List.getElem_toArray]); (try simp only [List.getElem_cons_succ]); (try simp only [List.getElem_cons_zero]); (try simp only [Act.put]); (try simp only [List.setIfInBounds_toArray]); (try simp only [List.set_cons_succ]); (try simp only [List.set_cons_zero])
      refine wpAnyH_take (i := 38) (v := ?_) rfl (by kernel_rfl) (by kernel_rfl) (by kernel_rfl) (fun _ _ _ h => h) (Or.inl ⟨by rfl, ?_⟩) (by assumption) ?_
      rotate_left
      · (intro w' hSw; go_simp; try with_reducible rfl)
      (try simp only [List.getElem_toArray]); (try simp only [List.getElem_cons_succ]); (try simp only [List.getElem_cons_zero]); (try simp only [Act.put]); (try simp only [List.setIfInBounds_toArray]); (try simp only [List.set_cons_succ]); (try simp only [List.set_cons_zero])
      refine wpAnyH_take (i := 39) (v := ?_) rfl (by kernel_rfl) (by kernel_rfl) (by kernel_rfl) (fun _ _ _ h => h) (Or.inl ⟨by rfl, ?_⟩) (by assumption) ?_
      rotate_left
      · (intro w' hSw; go_simp; try with_reducible rfl)
      (try simp only [List.getElem_toArray]); (try simp only [List.getElem_cons_succ]); (try simp only [List.getElem_cons_zero]); (try simp only [Act.put]); (try simp only [List.setIfInBounds_toArray]); (try simp only [List.set_cons_succ]); (try simp only [List.set_cons_zero])
      refine wpAnyH_take (i := 40) (v := ?_) rfl (by kernel_rfl) (by kernel_rfl) (by kernel_rfl) (fun _ _ _ h => h) (Or.inl ⟨by rfl, ?_⟩) (by assumption) ?_
      rotate_left
      · (intro w' hSw; go_simp; try with_reducible rfl)
      (try simp only [List.getElem_toArray]); (try simp only [List.getElem_cons_succ]); (try simp only [List.getElem_cons_zero]); (try simp only [Act.put]); (try simp only [List.setIfInBounds_toArray]); (try simp only [List.set_cons_succ]); (try simp only [List.set_cons_zero])
      refine wpAnyH_ready (rs := [41]) (by kernel_rfl) (by simp) ?_
      refine AllReadyH.cons rfl (fun K hK => ?_) AllReadyH.nil
      go_simp
      go_at_call 20
      refine (JO _ (hX.up hV4) (hP8.up hV4) (hQ8.up hV4)).mono ?_
      rintro e w124 ⟨rfl, hb124⟩
      have hV5 := Up.then_ hV4 hb124
      go_wp2_with fail
      refine hK.out _ _ (by exact ⟨hV5, fun _ _ hb => hV5.cell hb⟩) (fun hHeld5 => ?_)
      clear hK K
      (try simp only [List.getElem_toArray]); (try simp only [List.getElem_cons_succ]); (try simp only [List.getElem_cons_zero]); (try simp only [Act.put]); (try simp only [List.setIfInBounds_toArray]); (try simp only [List.set_cons_succ]); (try simp only [List.set_cons_zero])
      refine wpAnyH_take (i := 42) (v := ?_) rfl (by kernel_rfl) (by kernel_rfl) (by kernel_rfl) (fun _ _ _ h => h) (Or.inl ⟨by rfl, ?_⟩) (by assumption) ?_
      rotate_left
      · (intro w' hSw; go_simp; try with_reducible rfl)
      (try simp only [List.getElem_toArray]); (try simp only [List.getElem_cons_succ]); (try simp only [List.getElem_cons_zero]); (try simp only [Act.put]); (try simp only [List.setIfInBounds_toArray]); (try simp only [List.set_cons_succ]); (try simp only [List.set_cons_zero])
      refine wpAnyH_take (i := 43) (v := ?_) rfl (by kernel_rfl) (by kernel_rfl) (by kernel_rfl) (fun _ _ _ h => h) (Or.inl ⟨by rfl, ?_⟩) (by assumption) ?_
      rotate_left
      · (intro w' hSw; go_simp; try with_reducible rfl)
      (try simp only [List.getElem_toArray]); (try simp only [List.getElem_cons_succ]); (try simp only [List.getElem_cons_zero]); (try simp only [Act.put]); (try simp only [List.setIfInBounds_toArray]); (try simp only [List.set_cons_succ]); (try simp only [List.set_cons_zero])
      refine wpAnyH_take (i := 44) (v := ?_) rfl (by kernel_rfl) (by kernel_rfl) (by kernel_rfl) (fun _ _ _ h => h) (Or.inl ⟨by rfl, ?_⟩) (by assumption) ?_
      rotate_left
      · (intro w' hSw; go_simp; try with_reducible rfl)
      (try simp only [List.getElem_toArray]); (try simp only [List.getElem_cons_succ]); (try simp only [List.getElem_cons_zero]); (try simp only [Act.put]); (try simp only [List.setIfInBounds_toArray]); (try simp only [List.set_cons_succ]); (try simp only [List.set_cons_zero])
      refine wpAnyH_take (i := 45) (v := ?_) rfl (by kernel_rfl) (by kernel_rfl) (by kernel_rfl) (fun _ _ _ h => h) (Or.inl ⟨by rfl, ?_⟩) (by assumption) ?_
      rotate_left
      · (intro w' hSw; go_simp; try with_reducible rfl)
      (try simp only [List.getElem_toArray]); (try simp only [List.getElem_cons_succ]); (try simp only [List.getElem_cons_zero]); (try simp only [Act.put]); (try simp only [List.setIfInBounds_toArray]); (try simp only [List.set_cons_succ]); (try simp only [List.set_cons_zero])
      refine wpAnyH_ready (rs := [46]) (by kernel_rfl) (by simp) ?_
      refine AllReadyH.cons rfl (fun K hK => ?_) AllReadyH.nil
      go_simp
      go_at_call 36
      refine (HCimpl _ (hX.up hV5)).mono ?_
      rintro e w125 ⟨rfl, hb125⟩
      have hV6 := Up.then_ hV5 hb125
      go_wp2_with fail
      refine hK.out _ _ (by exact ⟨hV6, fun _ _ hb => hV6.cell hb⟩) (fun hHeld6 => ?_)
      clear hK K
      (try simp only [List.getElem_toArray]); (try simp only [List.getElem_cons_succ]); (try simp only [List.getElem_cons_zero]); (try simp only [Act.put]); (try simp only [List.setIfInBounds_toArray]); (try simp only [List.set_cons_succ]); (try simp only [List.set_cons_zero])
      refine wpAnyH_take (i := 47) (v := ?_) rfl (by kernel_rfl) (by kernel_rfl) (by kernel_rfl) (fun _ _ _ h => h) (Or.inl ⟨by rfl, ?_⟩) (by assumption) ?_
      rotate_left
      · (intro w' hSw; go_simp; try with_reducible rfl)
      (try simp only [List.getElem_toArray]); (try simp only [List.getElem_cons_succ]); (try simp only [List.getElem_cons_zero]); (try simp only [Act.put]); (try simp only [List.setIfInBounds_toArray]); (try simp only [List.set_cons_succ]); (try simp only [List.set_cons_zero])
      rw [decide_eq_false (show ¬ ((ct : Nat) : Int) < 1 by omega)]
      refine wpAnyH_take (i := 48) (v := ?_) rfl (by kernel_rfl) (by kernel_rfl) (by kernel_rfl) (fun _ _ _ h => h) (Or.inl ⟨by rfl, ?_⟩) (by assumption) ?_
      rotate_left
      · (intro w' hSw; go_simp; try with_reducible rfl)
      (try simp only [List.getElem_toArray]); (try simp only [List.getElem_cons_succ]); (try simp only [List.getElem_cons_zero]); (try simp only [Act.put]); (try simp only [List.setIfInBounds_toArray]); (try simp only [List.set_cons_succ]); (try simp only [List.set_cons_zero])
      refine wpAnyH_take (i := 49) (v := ?_) rfl (by kernel_rfl) (by kernel_rfl) (by kernel_rfl) (fun _ _ _ h => h) (Or.inl ⟨by rfl, ?_⟩) (by assumption) ?_
      rotate_left
      · (intro w' hSw; go_simp; try with_reducible rfl)
      (try simp only [List.getElem_toArray]); (try simp only [List.getElem_cons_succ]); (try simp only [List.getElem_cons_zero]); (try simp only [Act.put]); (try simp only [List.setIfInBounds_toArray]); (try simp only [List.set_cons_succ]); (try simp only [List.set_cons_zero])
      refine wpAnyH_take (i := 50) (v := ?_) rfl (by kernel_rfl) (by kernel_rfl) (by kernel_rfl) (fun _ _ _ h => h) (Or.inl ⟨by rfl, ?_⟩) (by assumption) ?_
      rotate_left
      · (intro w' hSw; go_simp; try with_reducible rfl)
      (try simp only [List.getElem_toArray]); (try simp only [List.getElem_cons_succ]); (try simp only [List.getElem_cons_zero]); (try simp only [Act.put]); (try simp only [List.setIfInBounds_toArray]); (try simp only [List.set_cons_succ]); (try simp only [List.set_cons_zero])
      refine wpAnyH_take (i := 51) (v := ?_) rfl (by kernel_rfl) (by kernel_rfl) (by kernel_rfl) (fun _ _ _ h => h) (Or.inl ⟨by rfl, ?_⟩) (by assumption) ?_
      rotate_left
      · (intro w' hSw; go_simp; try with_reducible rfl)
      (try simp only [List.getElem_toArray]); (try simp only [List.getElem_cons_succ]); (try simp only [List.getElem_cons_zero]); (try simp only [Act.put]); (try simp only [List.setIfInBounds_toArray]); (try simp only [List.set_cons_succ]); (try simp only [List.set_cons_zero])
      refine wpAnyH_take (i := 52) (v := ?_) rfl (by kernel_rfl) (by kernel_rfl) (by kernel_rfl) (fun _ _ _ h => h) (Or.inl ⟨by rfl, ?_⟩) (by assumption) ?_
      rotate_left
      · (intro w' hSw; go_simp; try with_reducible rfl)
      (try simp only [List.getElem_toArray]); (try simp only [List.getElem_cons_succ]); (try simp only [List.getElem_cons_zero]); (try simp only [Act.put]); (try simp only [List.setIfInBounds_toArray]); (try simp only [List.set_cons_succ]); (try simp only [List.set_cons_zero])
      refine wpAnyH_take (i := 54) (v := ?_) rfl (by kernel_rfl) (by kernel_rfl) (by kernel_rfl) (fun _ _ _ h => h) (Or.inl ⟨by rfl, ?_⟩) (by assumption) ?_
      rotate_left
      · (intro w' hSw; go_simp; try with_reducible rfl)
      (try simp only [List.getElem_toArray]); (try simp only [List.getElem_cons_succ]); (try simp only [List.getElem_cons_zero]); (try simp only [Act.put]); (try simp only [List.setIfInBounds_toArray]); (try simp only [List.set_cons_succ]); (try simp only [List.set_cons_zero])
      refine wpAnyH_ready (rs := [53]) (by kernel_rfl) (by simp) ?_
      refine AllReadyH.cons rfl (fun K hK => ?_) AllReadyH.nil
      go_simp
      go_at_call 36
      refine (HCimpl _ (hX.up hV6)).mono ?_
      rintro e w126 ⟨rfl, hb126⟩
      have hV7 := Up.then_ hV6 hb126
      go_wp2_with fail
      refine hK.out _ _ (by exact ⟨hV7, fun _ _ hb => hV7.cell hb⟩) (fun hHeld7 => ?_)
      clear hK K
      (try simp only [List.getElem_toArray]); (try simp only [List.getElem_cons_succ]); (try simp only [List.getElem_cons_zero]); (try simp only [Act.put]); (try simp only [List.setIfInBounds_toArray]); (try simp only [List.set_cons_succ]); (try simp only [List.set_cons_zero])
      refine wpAnyH_ready (rs := [55]) (by kernel_rfl) (by simp) ?_
      refine AllReadyH.cons rfl (fun K hK => ?_) AllReadyH.nil
      go_simp
      go_at_call 37
      refine (HCspec _ (hX.up hV7)).mono ?_
      rintro e w127 ⟨rfl, hb127⟩
      have hV8 := Up.then_ hV7 hb127
      go_wp2_with fail
      refine hK.out _ _ (by exact ⟨hV8, fun _ _ hb => hV8.cell hb⟩) (fun hHeld8 => ?_)
      clear hK K
      (try simp only [List.getElem_toArray]); (try simp only [List.getElem_cons_succ]); (try simp only [List.getElem_cons_zero]); (try simp only [Act.put]); (try simp only [List.setIfInBounds_toArray]); (try simp only [List.set_cons_succ]); (try simp only [List.set_cons_zero])
      refine wpAnyH_take (i := 56) (v := ?_) rfl (by kernel_rfl) (by kernel_rfl) (by kernel_rfl) (fun _ _ _ h => h) (Or.inl ⟨by rfl, ?_⟩) (by assumption) ?_
      rotate_left
      · (intro w' hSw; go_simp; try with_reducible rfl)
      (try simp only [List.getElem_toArray]); (try simp only [List.getElem_cons_succ]); (try simp only [List.getElem_cons_zero]); (try simp only [Act.put]); (try simp only [List.setIfInBounds_toArray]); (try simp only [List.set_cons_succ]); (try simp only [List.set_cons_zero])
      refine wpAnyH_take (i := 57) (v := ?_) rfl (by kernel_rfl) (by kernel_rfl) (by kernel_rfl) (fun _ _ _ h => h) (Or.inl ⟨by rfl, ?_⟩) (by assumption) ?_
      rotate_left
      · (intro w' hSw; go_simp; try with_reducible rfl)
      (try simp only [List.getElem_toArray]); (try simp only [List.getElem_cons_succ]); (try simp only [List.getElem_cons_zero]); (try simp only [Act.put]); (try simp only [List.setIfInBounds_toArray]); (try simp only [List.set_cons_succ]); (try simp only [List.set_cons_zero])
      refine wpAnyH_done (by kernel_rfl) ?_ _
      have hU12 := hV8
      replace hB := hB.up hU12
      replace hX := hX.up hU12
      replace hG := hG.up hU12
      replace hO4 := hO4.up hU12
      replace hO5 := hO5.up hU12
      replace hG7 := hG7.up hU12
      replace hP6 := hP6.up hU12
      replace hQ6 := hQ6.up hU12
      replace hG9 := hG9.up hU12
      replace hP8 := hP8.up hU12
      replace hQ8 := hQ8.up hU12
      replace yhG := hG.two
      replace lhG := hG.lt
      replace yhG7 := hG7.two
      replace lhG7 := hG7.lt
      replace yhG9 := hG9.two
      replace lhG9 := hG9.lt
      have hw12 := Up.then_ hw9 hU12
      clear hV0 hV1 hV2 hV3 hV4 hV5 hV6 hV7 hb120 hb121 hb122 hb123 hb124 hb125 hb126 hb127 hHeld hHeld1 hHeld2 hHeld3 hHeld4 hHeld5 hHeld6 hHeld7 hHeld8 hU12 hw9 HP HCimpl HCspec hO4 hO5 hG7 yhG7 lhG7 hP6 hQ6 hG9 yhG9 lhG9 hP8 hQ8
      clear JU JO hct1
      go_wp2_with fail
      refine (HOimpl _ hX).mono ?_
      rintro e w20 ⟨A20, c20, rfl, hO20, hb20⟩
      have hU20 : Up w127 w20 := Up.then_ (by go_grown) hb20
      replace hB := hB.up hU20
      replace hX := hX.up hU20
      replace hG := hG.up hU20
      replace yhG := hG.two
      replace lhG := hG.lt
      have hw20 := Up.then_ hw12 hU20
      replace hO20 := hO20.ri
      replace yhG := hG.two
      replace lhG := hG.lt
      go_wp2_with fail
      refine (HOspec _ hX).mono ?_
      rintro e w21 ⟨A21, c21, rfl, hO21, hb21⟩
      have hU21 : Up w20 w21 := Up.then_ (by go_grown) hb21
      replace hB := hB.up hU21
      replace hX := hX.up hU21
      replace hG := hG.up hU21
      replace hO20 := hO20.up hU21
      replace yhG := hG.two
      replace lhG := hG.lt
      have hw21 := Up.then_ hw20 hU21
      have hcap21 := hO21.cap
      replace hO21 := hO21.ri
      replace yhG := hG.two
      replace lhG := hG.lt
      go_wp2_with fail
      refine (sameInts_up hO20 hO21 (by omega)).mono ?_
      rintro e w22 ⟨rfl, hb22⟩
      have hU22 : Up w21 w22 := Up.then_ (by go_grown) hb22
      replace hB := hB.up hU22
      replace hX := hX.up hU22
      replace hG := hG.up hU22
      replace hO20 := hO20.up hU22
      replace hO21 := hO21.up hU22
      replace yhG := hG.two
      replace lhG := hG.lt
      have hw22 := Up.then_ hw21 hU22
      go_wp2_with fail
      refine (HI _ hX).mono ?_
      rintro e wT ⟨rfl, hbT⟩
      have hUT : Up w22 wT := Up.then_ (by go_grown) hbT
      replace hB := hB.up hUT
      replace hX := hX.up hUT
      replace hG := hG.up hUT
      replace hO20 := hO20.up hUT
      replace hO21 := hO21.up hUT
      replace yhG := hG.two
      replace lhG := hG.lt
      have hwT := Up.then_ hw22 hUT
      clear HOimpl HOspec HI hU20 hU21 hU22 hUT hb20 hb21 hb22 hbT hw12 hw20 hw21 hw22 hO20
      clear hO21 hcap21
    case' inr.inl =>
      clear hum
      have hV0 : Up w9 w9.drew := (Up.refl _).drew
      refine wp_region_held_drew (S := (fun w' => Up w9 w' ∧ (∀ b o, b < w9.heap.size → w'.cell? ⟨b, o, none⟩ = w9.cell? ⟨b, o, none⟩))) (by kernel_rfl) (by exact ⟨hV0, fun _ _ hb => hV0.cell hb⟩) (fun hHeld => ?_)
      refine wpAnyH_take (i := 0) (v := ?_) rfl (by kernel_rfl) (by kernel_rfl) (by kernel_rfl) (fun _ _ _ h => h) (Or.inl ⟨by rfl, ?_⟩) (by assumption) ?_
      rotate_left
      · (intro w' hSw; go_simp; try with_reducible rfl)
      (try simp only [List.getElem_toArray]); (try simp only [List.getElem_cons_succ]); (try simp only [List.getElem_cons_zero]); (try simp only [Act.put]); (try simp only [List.setIfInBounds_toArray]); (try simp only [List.set_cons_succ]); (try simp only [List.set_cons_zero])
      refine wpAnyH_take (i := 1) (v := ?_) rfl (by kernel_rfl) (by kernel_rfl) (by kernel_rfl) (fun _ _ _ h => h) (Or.inl ⟨by rfl, ?_⟩) (by assumption) ?_
      rotate_left
      · (intro w' hSw; go_simp; try with_reducible rfl)
      (try simp only [List.getElem_toArray]); (try simp only [List.getElem_cons_succ]); (try simp only [List.getElem_cons_zero]); (try simp only [Act.put]); (try simp only [List.setIfInBounds_toArray]); (try simp only [List.set_cons_succ]); (try simp only [List.set_cons_zero])
      refine wpAnyH_take (i := 2) (v := ?_) rfl (by kernel_rfl) (by kernel_rfl) (by kernel_rfl) (fun _ _ _ h => h) (Or.inl ⟨by rfl, ?_⟩) (by assumption) ?_
      rotate_left
      · (intro w' hSw; go_simp; try with_reducible rfl)
      (try simp only [List.getElem_toArray]); (try simp only [List.getElem_cons_succ]); (try simp only [List.getElem_cons_zero]); (try simp only [Act.put]); (try simp only [List.setIfInBounds_toArray]); (try simp only [List.set_cons_succ]); (try simp only [List.set_cons_zero])
      refine wpAnyH_take (i := 3) (v := ?_) rfl (by kernel_rfl) (by kernel_rfl) (by kernel_rfl) (fun _ _ _ h => h) (Or.inl ⟨by rfl, ?_⟩) (by assumption) ?_
      rotate_left
      · (intro w' hSw; go_simp; try with_reducible rfl)
      (try simp only [List.getElem_toArray]); (try simp only [List.getElem_cons_succ]); (try simp only [List.getElem_cons_zero]); (try simp only [Act.put]); (try simp only [List.setIfInBounds_toArray]); (try simp only [List.set_cons_succ]); (try simp only [List.set_cons_zero])
      refine wpAnyH_take (i := 4) (v := ?_) rfl (by kernel_rfl) (by kernel_rfl) (by kernel_rfl) (fun _ _ _ h => h) (Or.inl ⟨by rfl, ?_⟩) (by assumption) ?_
      rotate_left
      · (intro w' hSw; go_simp; try with_reducible rfl)
      (try simp only [List.getElem_toArray]); (try simp only [List.getElem_cons_succ]); (try simp only [List.getElem_cons_zero]); (try simp only [Act.put]); (try simp only [List.setIfInBounds_toArray]); (try simp only [List.set_cons_succ]); (try simp only [List.set_cons_zero])
      refine wpAnyH_take (i := 5) (v := ?_) rfl (by kernel_rfl) (by kernel_rfl) (by kernel_rfl) (fun _ _ _ h => h) (Or.inl ⟨by rfl, ?_⟩) (by assumption) ?_
      rotate_left
      · (intro w' hSw; go_simp; try with_reducible rfl)
      (try simp only [List.getElem_toArray]); (try simp only [List.getElem_cons_succ]); (try simp only [List.getElem_cons_zero]); (try simp only [Act.put]); (try simp only [List.setIfInBounds_toArray]); (try simp only [List.set_cons_succ]); (try simp only [List.set_cons_zero])
      refine wpAnyH_ready (rs := [6]) (by kernel_rfl) (by simp) ?_
      refine AllReadyH.cons rfl (fun K hK => ?_) AllReadyH.nil
      go_simp
      go_at_call 13
      refine (sameInts_up (hO4.up hV0) (hO5.up hV0) (by omega)).mono ?_
      rintro e w120 ⟨rfl, hb120⟩
      have hV1 := Up.then_ hV0 hb120
      go_wp2_with fail
      refine hK.out _ _ (by exact ⟨hV1, fun _ _ hb => hV1.cell hb⟩) (fun hHeld1 => ?_)
      clear hK K
      (try simp only [List.getElem_toArray]); (try simp only [List.getElem_cons_succ]); (try simp only [List.getElem_cons_zero]); (try simp only [Act.put]); (try simp only [List.setIfInBounds_toArray]); (try simp only [List.set_cons_succ]); (try simp only [List.set_cons_zero])
      refine wpAnyH_take (i := 7) (v := ?_) rfl (by kernel_rfl) (by kernel_rfl) (by kernel_rfl) (fun _ _ _ h => h) (Or.inl ⟨by rfl, ?_⟩) (by assumption) ?_
      rotate_left
      · (intro w' hSw; go_simp; try with_reducible rfl)
      (try simp only [List.getElem_toArray]); (try simp only [List.getElem_cons_succ]); (try simp only [List.getElem_cons_zero]); (try simp only [Act.put]); (try simp only [List.setIfInBounds_toArray]); (try simp only [List.set_cons_succ]); (try simp only [List.set_cons_zero])
      refine wpAnyH_take (i := 8) (v := ?_) rfl (by kernel_rfl) (by kernel_rfl) (by kernel_rfl) (fun _ _ _ h => h) (Or.inl ⟨by rfl, ?_⟩) (by assumption) ?_
      rotate_left
      · (intro w' hSw; go_simp; try with_reducible rfl)
      (try simp only [List.getElem_toArray]); (try simp only [List.getElem_cons_succ]); (try simp only [List.getElem_cons_zero]); (try simp only [Act.put]); (try simp only [List.setIfInBounds_toArray]); (try simp only [List.set_cons_succ]); (try simp only [List.set_cons_zero])
      refine wpAnyH_take (i := 9) (v := ?_) rfl (by kernel_rfl) (by kernel_rfl) (by kernel_rfl) (fun _ _ _ h => h) (Or.inl ⟨by rfl, ?_⟩) (by assumption) ?_
      rotate_left
      · (intro w' hSw; go_simp; try with_reducible rfl)
      (try simp only [List.getElem_toArray]); (try simp only [List.getElem_cons_succ]); (try simp only [List.getElem_cons_zero]); (try simp only [Act.put]); (try simp only [List.setIfInBounds_toArray]); (try simp only [List.set_cons_succ]); (try simp only [List.set_cons_zero])
      refine wpAnyH_take (i := 10) (v := ?_) rfl (by kernel_rfl) (by kernel_rfl) (by kernel_rfl) (fun _ _ _ h => h) (Or.inl ⟨by rfl, ?_⟩) (by assumption) ?_
      rotate_left
      · (intro w' hSw; go_simp; try with_reducible rfl)
      (try simp only [List.getElem_toArray]); (try simp only [List.getElem_cons_succ]); (try simp only [List.getElem_cons_zero]); (try simp only [Act.put]); (try simp only [List.setIfInBounds_toArray]); (try simp only [List.set_cons_succ]); (try simp only [List.set_cons_zero])
      refine wpAnyH_take (i := 11) (v := ?_) rfl (by kernel_rfl) (by kernel_rfl) (by kernel_rfl) (fun _ _ _ h => h) (Or.inl ⟨by rfl, ?_⟩) (by assumption) ?_
      rotate_left
      · (intro w' hSw; go_simp; try with_reducible rfl)
      (try simp only [List.getElem_toArray]); (try simp only [List.getElem_cons_succ]); (try simp only [List.getElem_cons_zero]); (try simp only [Act.put]); (try simp only [List.setIfInBounds_toArray]); (try simp only [List.set_cons_succ]); (try simp only [List.set_cons_zero])
      refine wpAnyH_take (i := 12) (v := ?_) rfl (by kernel_rfl) (by kernel_rfl) (by kernel_rfl) (fun _ _ _ h => h) (Or.inl ⟨by rfl, ?_⟩) (by assumption) ?_
      rotate_left
      · (intro w' hSw; go_simp; try with_reducible rfl)
      (try simp only [List.getElem_toArray]); (try simp only [List.getElem_cons_succ]); (try simp only [List.getElem_cons_zero]); (try simp only [Act.put]); (try simp only [List.setIfInBounds_toArray]); (try simp only [List.set_cons_succ]); (try simp only [List.set_cons_zero])
      refine wpAnyH_take (i := 13) (v := ?_) rfl (by kernel_rfl) (by kernel_rfl) (by kernel_rfl) (fun _ _ _ h => h) (Or.inl ⟨by rfl, ?_⟩) (by assumption) ?_
      rotate_left
      · (intro w' hSw; go_simp; try with_reducible rfl)
      (try simp only [List.getElem_toArray]); (try simp only [List.getElem_cons_succ]); (try simp only [List.getElem_cons_zero]); (try simp only [Act.put]); (try simp only [List.setIfInBounds_toArray]); (try simp only [List.set_cons_succ]); (try simp only [List.set_cons_zero])
      refine wpAnyH_take (i := 14) (v := ?_) rfl (by kernel_rfl) (by kernel_rfl) (by kernel_rfl) (fun _ _ _ h => h) (Or.inl ⟨by rfl, ?_⟩) (by assumption) ?_
      rotate_left
      · (intro w' hSw; go_simp; try with_reducible rfl)
      (try simp only [List.getElem_toArray]); (try simp only [List.getElem_cons_succ]); (try simp only [List.getElem_cons_zero]); (try simp only [Act.put]); (try simp only [List.setIfInBounds_toArray]); (try simp only [List.set_cons_succ]); (try simp only [List.set_cons_zero])
      refine wpAnyH_take (i := 15) (v := ?_) rfl (by kernel_rfl) (by kernel_rfl) (by kernel_rfl) (fun _ _ _ h => h) (Or.inl ⟨by rfl, ?_⟩) (by assumption) ?_
      rotate_left
      · (intro w' hSw; go_simp; try with_reducible rfl)
      (try simp only [List.getElem_toArray]); (try simp only [List.getElem_cons_succ]); (try simp only [List.getElem_cons_zero]); (try simp only [Act.put]); (try simp only [List.setIfInBounds_toArray]); (try simp only [List.set_cons_succ]); (try simp only [List.set_cons_zero])
      refine wpAnyH_take (i := 16) (v := ?_) rfl (by kernel_rfl) (by kernel_rfl) (by kernel_rfl) (fun _ _ _ h => h) (Or.inl ⟨by rfl, ?_⟩) (by assumption) ?_
      rotate_left
      · (intro w' hSw; go_simp; try with_reducible rfl)
      (try simp only [List.getElem_toArray]); (try simp only [List.getElem_cons_succ]); (try simp only [List.getElem_cons_zero]); (try simp only [Act.put]); (try simp only [List.setIfInBounds_toArray]); (try simp only [List.set_cons_succ]); (try simp only [List.set_cons_zero])
      refine wpAnyH_ready (rs := [17]) (by kernel_rfl) (by simp) ?_
      refine AllReadyH.cons rfl (fun K hK => ?_) AllReadyH.nil
      go_simp
      go_at_call 14
      refine (sameModel_up (hP6.up hV1) (hQ6.up hV1) (hP8.up hV1) (hQ8.up hV1) (by omega) (by omega)).mono ?_
      rintro e w121 ⟨rfl, hb121⟩
      have hV2 := Up.then_ hV1 hb121
      go_wp2_with fail
      refine hK.out _ _ (by exact ⟨hV2, fun _ _ hb => hV2.cell hb⟩) (fun hHeld2 => ?_)
      clear hK K
      (try simp only [List.getElem_toArray]); (try simp only [List.getElem_cons_succ]); (try simp only [List.getElem_cons_zero]); (try simp only [Act.put]); (try simp only [List.setIfInBounds_toArray]); (try simp only [List.set_cons_succ]); (try simp only [List.set_cons_zero])
      refine wpAnyH_take (i := 18) (v := ?_) rfl (by kernel_rfl) (by kernel_rfl) (by kernel_rfl) (fun _ _ _ h => h) (Or.inl ⟨by rfl, ?_⟩) (by assumption) ?_
      rotate_left
      · (intro w' hSw; go_simp; try with_reducible rfl)
      (try simp only [List.getElem_toArray]); (try simp only [List.getElem_cons_succ]); (try simp only [List.getElem_cons_zero]); (try simp only [Act.put]); (try simp only [List.setIfInBounds_toArray]); (try simp only [List.set_cons_succ]); (try simp only [List.set_cons_zero])
      refine wpAnyH_take (i := 19) (v := ?_) rfl (by kernel_rfl) (by kernel_rfl) (by kernel_rfl) (fun _ _ _ h => h) (Or.inl ⟨by rfl, ?_⟩) (by assumption) ?_
      rotate_left
      · (intro w' hSw; go_simp; try with_reducible rfl)
      (try simp only [List.getElem_toArray]); (try simp only [List.getElem_cons_succ]); (try simp only [List.getElem_cons_zero]); (try simp only [Act.put]); (try simp only [List.setIfInBounds_toArray]); (try simp only [List.set_cons_succ]); (try simp only [List.set_cons_zero])
      refine wpAnyH_take (i := 20) (v := ?_) rfl (by kernel_rfl) (by kernel_rfl) (by kernel_rfl) (fun _ _ _ h => h) (Or.inl ⟨by rfl, ?_⟩) (by assumption) ?_
      rotate_left
      · (intro w' hSw; go_simp; try with_reducible rfl)
      (try simp only [List.getElem_toArray]); (try simp only [List.getElem_cons_succ]); (try simp only [List.getElem_cons_zero]); (try simp only [Act.put]); (try simp only [List.setIfInBounds_toArray]); (try simp only [List.set_cons_succ]); (try simp only [List.set_cons_zero])
      refine wpAnyH_take (i := 21) (v := ?_) rfl (by kernel_rfl) (by kernel_rfl) (by kernel_rfl) (fun _ _ _ h => h) (Or.inl ⟨by rfl, ?_⟩) (by assumption) ?_
      rotate_left
      · (intro w' hSw; go_simp; try with_reducible rfl)
      (try simp only [List.getElem_toArray]); (try simp only [List.getElem_cons_succ]); (try simp only [List.getElem_cons_zero]); (try simp only [Act.put]); (try simp only [List.setIfInBounds_toArray]); (try simp only [List.set_cons_succ]); (try simp only [List.set_cons_zero])
      refine wpAnyH_take (i := 23) (v := ?_) rfl (by kernel_rfl) (by kernel_rfl) (by kernel_rfl) (fun _ _ _ h => h) (Or.inl ⟨by rfl, ?_⟩) (by assumption) ?_
      rotate_left
      · (intro w' hSw; go_simp; try with_reducible rfl)
      (try simp only [List.getElem_toArray]); (try simp only [List.getElem_cons_succ]); (try simp only [List.getElem_cons_zero]); (try simp only [Act.put]); (try simp only [List.setIfInBounds_toArray]); (try simp only [List.set_cons_succ]); (try simp only [List.set_cons_zero])
      refine wpAnyH_ready (rs := [22]) (by kernel_rfl) (by simp) ?_
      refine AllReadyH.cons rfl (fun K hK => ?_) AllReadyH.nil
      go_simp
      go_at_call 34
      refine (HP _ (hX.up hV2)).mono ?_
      rintro e w122 ⟨rfl, hb122⟩
      have hV3 := Up.then_ hV2 hb122
      go_wp2_with fail
      refine hK.out _ _ (by exact ⟨hV3, fun _ _ hb => hV3.cell hb⟩) (fun hHeld3 => ?_)
      clear hK K
      (try simp only [List.getElem_toArray]); (try simp only [List.getElem_cons_succ]); (try simp only [List.getElem_cons_zero]); (try simp only [Act.put]); (try simp only [List.setIfInBounds_toArray]); (try simp only [List.set_cons_succ]); (try simp only [List.set_cons_zero])
      refine wpAnyH_take (i := 24) (v := ?_) rfl (by kernel_rfl) (by kernel_rfl) (by kernel_rfl) (fun _ _ _ h => h) (Or.inl ⟨by rfl, ?_⟩) (by assumption) ?_
      rotate_left
      · (intro w' hSw; go_simp; try with_reducible rfl)
      (try simp only [List.getElem_toArray]); (try simp only [List.getElem_cons_succ]); (try simp only [List.getElem_cons_zero]); (try simp only [Act.put]); (try simp only [List.setIfInBounds_toArray]); (try simp only [List.set_cons_succ]); (try simp only [List.set_cons_zero])
      refine wpAnyH_take (i := 25) (v := ?_) rfl (by kernel_rfl) (by kernel_rfl) (by kernel_rfl) (fun _ _ _ h => h) (Or.inl ⟨by rfl, ?_⟩) (by assumption) ?_
      rotate_left
      · (intro w' hSw; go_simp; try with_reducible rfl)
      (try simp only [List.getElem_toArray]); (try simp only [List.getElem_cons_succ]); (try simp only [List.getElem_cons_zero]); (try simp only [Act.put]); (try simp only [List.setIfInBounds_toArray]); (try simp only [List.set_cons_succ]); (try simp only [List.set_cons_zero])
      refine wpAnyH_take (i := 26) (v := ?_) rfl (by kernel_rfl) (by kernel_rfl) (by kernel_rfl) (fun _ _ _ h => h) (Or.inl ⟨by rfl, ?_⟩) (by assumption) ?_
      rotate_left
      · (intro w' hSw; go_simp; try with_reducible rfl)
      (try simp only [List.getElem_toArray]); (try simp only [List.getElem_cons_succ]); (try simp only [List.getElem_cons_zero]); (try simp only [Act.put]); (try simp only [List.setIfInBounds_toArray]); (try simp only [List.set_cons_succ]); (try simp only [List.set_cons_zero])
      refine wpAnyH_take (i := 27) (v := ?_) rfl (by kernel_rfl) (by kernel_rfl) (by kernel_rfl) (fun _ _ _ h => h) (Or.inl ⟨by rfl, ?_⟩) (by assumption) ?_
      rotate_left
      · (intro w' hSw; go_simp; try with_reducible rfl)
      (try simp only [List.getElem_toArray]); (try simp only [List.getElem_cons_succ]); (try simp only [List.getElem_cons_zero]); (try simp only [Act.put]); (try simp only [List.setIfInBounds_toArray]); (try simp only [List.set_cons_succ]); (try simp only [List.set_cons_zero])
      refine wpAnyH_take (i := 28) (v := ?_) rfl (by kernel_rfl) (by kernel_rfl) (by kernel_rfl) (fun _ _ _ h => h) (Or.inl ⟨by rfl, ?_⟩) (by assumption) ?_
      rotate_left
      · (intro w' hSw; go_simp; try with_reducible rfl)
      (try simp only [List.getElem_toArray]); (try simp only [List.getElem_cons_succ]); (try simp only [List.getElem_cons_zero]); (try simp only [Act.put]); (try simp only [List.setIfInBounds_toArray]); (try simp only [List.set_cons_succ]); (try simp only [List.set_cons_zero])
      refine wpAnyH_take (i := 29) (v := ?_) rfl (by kernel_rfl) (by kernel_rfl) (by kernel_rfl) (fun _ _ _ h => h) (Or.inl ⟨by rfl, ?_⟩) (by assumption) ?_
      rotate_left
      · (intro w' hSw; go_simp; try with_reducible rfl)
      (try simp only [List.getElem_toArray]); (try simp only [List.getElem_cons_succ]); (try simp only [List.getElem_cons_zero]); (try simp only [Act.put]); (try simp only [List.setIfInBounds_toArray]); (try simp only [List.set_cons_succ]); (try simp only [List.set_cons_zero])
      refine wpAnyH_take (i := 30) (v := ?_) rfl (by kernel_rfl) (by kernel_rfl) (by kernel_rfl) (fun _ _ _ h => h) (Or.inl ⟨by rfl, ?_⟩) (by assumption) ?_
      rotate_left
      · (intro w' hSw; go_simp; try with_reducible rfl)
      (try simp only [List.getElem_toArray]); (try simp only [List.getElem_cons_succ]); (try simp only [List.getElem_cons_zero]); (try simp only [Act.put]); (try simp only [List.setIfInBounds_toArray]); (try simp only [List.set_cons_succ]); (try simp only [List.set_cons_zero])
      refine wpAnyH_take (i := 31) (v := ?_) rfl (by kernel_rfl) (by kernel_rfl) (by kernel_rfl) (fun _ _ _ h => h) (Or.inl ⟨by rfl, ?_⟩) (by assumption) ?_
      rotate_left
      · (intro w' hSw; go_simp; try with_reducible rfl)
      (try simp only [List.getElem_toArray]); (try simp only [List.getElem_cons_succ]); (try simp only [List.getElem_cons_zero]); (try simp only [Act.put]); (try simp only [List.setIfInBounds_toArray]); (try simp only [List.set_cons_succ]); (try simp only [List.set_cons_zero])
      refine wpAnyH_take (i := 32) (v := ?_) rfl (by kernel_rfl) (by kernel_rfl) (by kernel_rfl) (fun _ _ _ h => h) (Or.inl ⟨by rfl, ?_⟩) (by assumption) ?_
      rotate_left
      · (intro w' hSw; go_simp; try with_reducible rfl)
      (try simp only [List.getElem_toArray]); (try simp only [List.getElem_cons_succ]); (try simp only [List.getElem_cons_zero]); (try simp only [Act.put]); (try simp only [List.setIfInBounds_toArray]); (try simp only [List.set_cons_succ]); (try simp only [List.set_cons_zero])
      refine wpAnyH_take (i := 33) (v := ?_) rfl (by kernel_rfl) (by kernel_rfl) (by kernel_rfl) (fun _ _ _ h => h) (Or.inl ⟨by rfl, ?_⟩) (by assumption) ?_
      rotate_left
      · (intro w' hSw; go_simp; try with_reducible rfl)
      (try simp only [List.getElem_toArray]); (try simp only [List.getElem_cons_succ]); (try simp only [List.getElem_cons_zero]); (try simp only [Act.put]); (try simp only [List.setIfInBounds_toArray]); (try simp only [List.set_cons_succ]); (try simp only [List.set_cons_zero])
      refine wpAnyH_take (i := 34) (v := undef) rfl (by kernel_rfl) (by kernel_rfl) (by kernel_rfl) (fun _ _ _ h => h) (Or.inr ⟨by rfl, rfl⟩) (by assumption) ?_
      (try simp only [List.getElem_toArray]); (try simp only [List.getElem_cons_succ]); (try simp only [List.getElem_cons_zero]); (try simp only [Act.put]); (try simp only [List.setIfInBounds_toArray]); (try simp only [List.set_cons_succ]); (try simp only [List.set_cons_zero])
      refine wpAnyH_take (i := 35) (v := undef) rfl (by kernel_rfl) (by kernel_rfl) (by kernel_rfl) (fun _ _ _ h => h) (Or.inr ⟨by rfl, rfl⟩) (by assumption) ?_
      (try simp only [List.getElem_toArray]); (try simp only [List.getElem_cons_succ]); (try simp only [List.getElem_cons_zero]); (try simp only [Act.put]); (try simp only [List.setIfInBounds_toArray]); (try simp only [List.set_cons_succ]); (try simp only [List.set_cons_zero])
      refine wpAnyH_take (i := 36) (v := undef) rfl (by kernel_rfl) (by kernel_rfl) (by kernel_rfl) (fun _ _ _ h => h) (Or.inr ⟨by rfl, rfl⟩) (by assumption) ?_
      (try simp only [List.getElem_toArray]); (try simp only [List.getElem_cons_succ]); (try simp only [List.getElem_cons_zero]); (try simp only [Act.put]); (try simp only [List.setIfInBounds_toArray]); (try simp only [List.set_cons_succ]); (try simp only [List.set_cons_zero])
      refine wpAnyH_take (i := 37) (v := undef) rfl (by kernel_rfl) (by kernel_rfl) (by kernel_rfl) (fun _ _ _ h => h) (Or.inr ⟨by rfl, rfl⟩) (by assumption) ?_
      (try simp only [List.getElem_toArray]); (try simp only [List.getElem_cons_succ]); (try simp only [List.getElem_cons_zero]); (try simp only [Act.put]); (try simp only [List.setIfInBounds_toArray]); (try simp only [List.set_cons_succ]); (try simp only [List.set_cons_zero])
      refine wpAnyH_take (i := 38) (v := undef) rfl (by kernel_rfl) (by kernel_rfl) (by kernel_rfl) (fun _ _ _ h => h) (Or.inr ⟨by rfl, rfl⟩) (by assumption) ?_
      (try simp only [List.getElem_toArray]); (try simp only [List.getElem_cons_succ]); (try simp only [List.getElem_cons_zero]); (try simp only [Act.put]); (try simp only [List.setIfInBounds_toArray]); (try simp only [List.set_cons_succ]); (try simp only [List.set_cons_zero])
      refine wpAnyH_take (i := 39) (v := undef) rfl (by kernel_rfl) (by kernel_rfl) (by kernel_rfl) (fun _ _ _ h => h) (Or.inr ⟨by rfl, rfl⟩) (by assumption) ?_
      (try simp only [List.getElem_toArray]); (try simp only [List.getElem_cons_succ]); (try simp only [List.getElem_cons_zero]); (try simp only [Act.put]); (try simp only [List.setIfInBounds_toArray]); (try simp only [List.set_cons_succ]); (try simp only [List.set_cons_zero])
      refine wpAnyH_take (i := 40) (v := undef) rfl (by kernel_rfl) (by kernel_rfl) (by kernel_rfl) (fun _ _ _ h => h) (Or.inr ⟨by rfl, rfl⟩) (by assumption) ?_
      (try simp only [List.getElem_toArray]); (try simp only [List.getElem_cons_succ]); (try simp only [List.getElem_cons_zero]); (try simp only [Act.put]); (try simp only [List.setIfInBounds_toArray]); (try simp only [List.set_cons_succ]); (try simp only [List.set_cons_zero])
      refine wpAnyH_take (i := 41) (v := undef) rfl (by kernel_rfl) (by kernel_rfl) (by kernel_rfl) (fun _ _ _ h => h) (Or.inr ⟨by rfl, rfl⟩) (by assumption) ?_
      (try simp only [List.getElem_toArray]); (try simp only [List.getElem_cons_succ]); (try simp only [List.getElem_cons_zero]); (try simp only [Act.put]); (try simp only [List.setIfInBounds_toArray]); (try simp only [List.set_cons_succ]); (try simp only [List.set_cons_zero])
      refine wpAnyH_take (i := 42) (v := undef) rfl (by kernel_rfl) (by kernel_rfl) (by kernel_rfl) (fun _ _ _ h => h) (Or.inr ⟨by rfl, rfl⟩) (by assumption) ?_
      (try simp only [List.getElem_toArray]); (try simp only [List.getElem_cons_succ]); (try simp only [List.getElem_cons_zero]); (try simp only [Act.put]); (try simp only [List.setIfInBounds_toArray]); (try simp only [List.set_cons_succ]); (try simp only [List.set_cons_zero])
      refine wpAnyH_take (i := 43) (v := undef) rfl (by kernel_rfl) (by kernel_rfl) (by kernel_rfl) (fun _ _ _ h => h) (Or.inr ⟨by rfl, rfl⟩) (by assumption) ?_
      (try simp only [List.getElem_toArray]); (try simp only [List.getElem_cons_succ]); (try simp only [List.getElem_cons_zero]); (try simp only [Act.put]); (try simp only [List.setIfInBounds_toArray]); (try simp only [List.set_cons_succ]); (try simp only [List.set_cons_zero])
      refine wpAnyH_take (i := 44) (v := undef) rfl (by kernel_rfl) (by kernel_rfl) (by kernel_rfl) (fun _ _ _ h => h) (Or.inr ⟨by rfl, rfl⟩) (by assumption) ?_
      (try simp only [List.getElem_toArray]); (try simp only [List.getElem_cons_succ]); (try simp only [List.getElem_cons_zero]); (try simp only [Act.put]); (try simp only [List.setIfInBounds_toArray]); (try simp only [List.set_cons_succ]); (try simp only [List.set_cons_zero])
      refine wpAnyH_take (i := 45) (v := undef) rfl (by kernel_rfl) (by kernel_rfl) (by kernel_rfl) (fun _ _ _ h => h) (Or.inr ⟨by rfl, rfl⟩) (by assumption) ?_
      (try simp only [List.getElem_toArray]); (try simp only [List.getElem_cons_succ]); (try simp only [List.getElem_cons_zero]); (try simp only [Act.put]); (try simp only [List.setIfInBounds_toArray]); (try simp only [List.set_cons_succ]); (try simp only [List.set_cons_zero])
      refine wpAnyH_take (i := 46) (v := undef) rfl (by kernel_rfl) (by kernel_rfl) (by kernel_rfl) (fun _ _ _ h => h) (Or.inr ⟨by rfl, rfl⟩) (by assumption) ?_
      (try simp only [List.getElem_toArray]); (try simp only [List.getElem_cons_succ]); (try simp only [List.getElem_cons_zero]); (try simp only [Act.put]); (try simp only [List.setIfInBounds_toArray]); (try simp only [List.set_cons_succ]); (try simp only [List.set_cons_zero])
      refine wpAnyH_take (i := 47) (v := undef) rfl (by kernel_rfl) (by kernel_rfl) (by kernel_rfl) (fun _ _ _ h => h) (Or.inr ⟨by rfl, rfl⟩) (by assumption) ?_
      (try simp only [List.getElem_toArray]); (try simp only [List.getElem_cons_succ]); (try simp only [List.getElem_cons_zero]); (try simp only [Act.put]); (try simp only [List.setIfInBounds_toArray]); (try simp only [List.set_cons_succ]); (try simp only [List.set_cons_zero])
      refine wpAnyH_take (i := 48) (v := undef) rfl (by kernel_rfl) (by kernel_rfl) (by kernel_rfl) (fun _ _ _ h => h) (Or.inr ⟨by rfl, rfl⟩) (by assumption) ?_
      (try simp only [List.getElem_toArray]); (try simp only [List.getElem_cons_succ]); (try simp only [List.getElem_cons_zero]); (try simp only [Act.put]); (try simp only [List.setIfInBounds_toArray]); (try simp only [List.set_cons_succ]); (try simp only [List.set_cons_zero])
      refine wpAnyH_take (i := 49) (v := ?_) rfl (by kernel_rfl) (by kernel_rfl) (by kernel_rfl) (fun _ _ _ h => h) (Or.inl ⟨by rfl, ?_⟩) (by assumption) ?_
      rotate_left
      · (intro w' hSw; go_simp; try with_reducible rfl)
      (try simp only [List.getElem_toArray]); (try simp only [List.getElem_cons_succ]); (try simp only [List.getElem_cons_zero]); (try simp only [Act.put]); (try simp only [List.setIfInBounds_toArray]); (try simp only [List.set_cons_succ]); (try simp only [List.set_cons_zero])
      refine wpAnyH_take (i := 50) (v := ?_) rfl (by kernel_rfl) (by kernel_rfl) (by kernel_rfl) (fun _ _ _ h => h) (Or.inl ⟨by rfl, ?_⟩) (by assumption) ?_
      rotate_left
      · (intro w' hSw; go_simp; try with_reducible rfl)
      (try simp only [List.getElem_toArray]); (try simp only [List.getElem_cons_succ]); (try simp only [List.getElem_cons_zero]); (try simp only [Act.put]); (try simp only [List.setIfInBounds_toArray]); (try simp only [List.set_cons_succ]); (try simp only [List.set_cons_zero])
      refine wpAnyH_take (i := 51) (v := ?_) rfl (by kernel_rfl) (by kernel_rfl) (by kernel_rfl) (fun _ _ _ h => h) (Or.inl ⟨by rfl, ?_⟩) (by assumption) ?_
      rotate_left
      · (intro w' hSw; go_simp; try with_reducible rfl)
      (try simp only [List.getElem_toArray]); (try simp only [List.getElem_cons_succ]); (try simp only [List.getElem_cons_zero]); (try simp only [Act.put]); (try simp only [List.setIfInBounds_toArray]); (try simp only [List.set_cons_succ]); (try simp only [List.set_cons_zero])
      refine wpAnyH_take (i := 52) (v := ?_) rfl (by kernel_rfl) (by kernel_rfl) (by kernel_rfl) (fun _ _ _ h => h) (Or.inl ⟨by rfl, ?_⟩) (by assumption) ?_
      rotate_left
      · (intro w' hSw; go_simp; try with_reducible rfl)
      (try simp only [List.getElem_toArray]); (try simp only [List.getElem_cons_succ]); (try simp only [List.getElem_cons_zero]); (try simp only [Act.put]); (try simp only [List.setIfInBounds_toArray]); (try simp only [List.set_cons_succ]); (try simp only [List.set_cons_zero])
      refine wpAnyH_take (i := 54) (v := ?_) rfl (by kernel_rfl) (by kernel_rfl) (by kernel_rfl) (fun _ _ _ h => h) (Or.inl ⟨by rfl, ?_⟩) (by assumption) ?_
      rotate_left
      · (intro w' hSw; go_simp; try with_reducible rfl)
      (try simp only [List.getElem_toArray]); (try simp only [List.getElem_cons_succ]); (try simp only [List.getElem_cons_zero]); (try simp only [Act.put]); (try simp only [List.setIfInBounds_toArray]); (try simp only [List.set_cons_succ]); (try simp only [List.set_cons_zero])
      refine wpAnyH_ready (rs := [53]) (by kernel_rfl) (by simp) ?_
      refine AllReadyH.cons rfl (fun K hK => ?_) AllReadyH.nil
      go_simp
      go_at_call 36
      refine (HCimpl _ (hX.up hV3)).mono ?_
      rintro e w123 ⟨rfl, hb123⟩
      have hV4 := Up.then_ hV3 hb123
      go_wp2_with fail
      refine hK.out _ _ (by exact ⟨hV4, fun _ _ hb => hV4.cell hb⟩) (fun hHeld4 => ?_)
      clear hK K
      (try simp only [List.getElem_toArray]); (try simp only [List.getElem_cons_succ]); (try simp only [List.getElem_cons_zero]); (try simp only [Act.put]); (try simp only [List.setIfInBounds_toArray]); (try simp only [List.set_cons_succ]); (try simp only [List.set_cons_zero])
      refine wpAnyH_ready (rs := [55]) (by kernel_rfl) (by simp) ?_
      refine AllReadyH.cons rfl (fun K hK => ?_) AllReadyH.nil
      go_simp
      go_at_call 37
      refine (HCspec _ (hX.up hV4)).mono ?_
      rintro e w124 ⟨rfl, hb124⟩
      have hV5 := Up.then_ hV4 hb124
      go_wp2_with fail
      refine hK.out _ _ (by exact ⟨hV5, fun _ _ hb => hV5.cell hb⟩) (fun hHeld5 => ?_)
      clear hK K
      (try simp only [List.getElem_toArray]); (try simp only [List.getElem_cons_succ]); (try simp only [List.getElem_cons_zero]); (try simp only [Act.put]); (try simp only [List.setIfInBounds_toArray]); (try simp only [List.set_cons_succ]); (try simp only [List.set_cons_zero])
      refine wpAnyH_take (i := 56) (v := ?_) rfl (by kernel_rfl) (by kernel_rfl) (by kernel_rfl) (fun _ _ _ h => h) (Or.inl ⟨by rfl, ?_⟩) (by assumption) ?_
      rotate_left
      · (intro w' hSw; go_simp; try with_reducible rfl)
      (try simp only [List.getElem_toArray]); (try simp only [List.getElem_cons_succ]); (try simp only [List.getElem_cons_zero]); (try simp only [Act.put]); (try simp only [List.setIfInBounds_toArray]); (try simp only [List.set_cons_succ]); (try simp only [List.set_cons_zero])
      refine wpAnyH_take (i := 57) (v := ?_) rfl (by kernel_rfl) (by kernel_rfl) (by kernel_rfl) (fun _ _ _ h => h) (Or.inl ⟨by rfl, ?_⟩) (by assumption) ?_
      rotate_left
      · (intro w' hSw; go_simp; try with_reducible rfl)
      (try simp only [List.getElem_toArray]); (try simp only [List.getElem_cons_succ]); (try simp only [List.getElem_cons_zero]); (try simp only [Act.put]); (try simp only [List.setIfInBounds_toArray]); (try simp only [List.set_cons_succ]); (try simp only [List.set_cons_zero])
      refine wpAnyH_done (by kernel_rfl) ?_ _
      have hU12 := hV5
      replace hB := hB.up hU12
      replace hX := hX.up hU12
      replace hG := hG.up hU12
      replace hO4 := hO4.up hU12
      replace hO5 := hO5.up hU12
      replace hG7 := hG7.up hU12
      replace hP6 := hP6.up hU12
      replace hQ6 := hQ6.up hU12
      replace hG9 := hG9.up hU12
      replace hP8 := hP8.up hU12
      replace hQ8 := hQ8.up hU12
      replace yhG := hG.two
      replace lhG := hG.lt
      replace yhG7 := hG7.two
      replace lhG7 := hG7.lt
      replace yhG9 := hG9.two
      replace lhG9 := hG9.lt
      have hw12 := Up.then_ hw9 hU12
      clear hV0 hV1 hV2 hV3 hV4 hb120 hb121 hb122 hb123 hb124 hHeld hHeld1 hHeld2 hHeld3 hHeld4 hHeld5 hU12 hw9 HP HCimpl HCspec hO4 hO5 hG7 yhG7 lhG7 hP6 hQ6 hG9 yhG9 lhG9 hP8 hQ8
      go_wp2_with fail
      refine (HOimpl _ hX).mono ?_
      rintro e w20 ⟨A20, c20, rfl, hO20, hb20⟩
      have hU20 : Up w124 w20 := Up.then_ (by go_grown) hb20
      replace hB := hB.up hU20
      replace hX := hX.up hU20
      replace hG := hG.up hU20
      replace yhG := hG.two
      replace lhG := hG.lt
      have hw20 := Up.then_ hw12 hU20
      replace hO20 := hO20.ri
      replace yhG := hG.two
      replace lhG := hG.lt
      go_wp2_with fail
      refine (HOspec _ hX).mono ?_
      rintro e w21 ⟨A21, c21, rfl, hO21, hb21⟩
      have hU21 : Up w20 w21 := Up.then_ (by go_grown) hb21
      replace hB := hB.up hU21
      replace hX := hX.up hU21
      replace hG := hG.up hU21
      replace hO20 := hO20.up hU21
      replace yhG := hG.two
      replace lhG := hG.lt
      have hw21 := Up.then_ hw20 hU21
      have hcap21 := hO21.cap
      replace hO21 := hO21.ri
      replace yhG := hG.two
      replace lhG := hG.lt
      go_wp2_with fail
      refine (sameInts_up hO20 hO21 (by omega)).mono ?_
      rintro e w22 ⟨rfl, hb22⟩
      have hU22 : Up w21 w22 := Up.then_ (by go_grown) hb22
      replace hB := hB.up hU22
      replace hX := hX.up hU22
      replace hG := hG.up hU22
      replace hO20 := hO20.up hU22
      replace hO21 := hO21.up hU22
      replace yhG := hG.two
      replace lhG := hG.lt
      have hw22 := Up.then_ hw21 hU22
      go_wp2_with fail
      refine (HI _ hX).mono ?_
      rintro e w23 ⟨rfl, hb23⟩
      have hU23 : Up w22 w23 := Up.then_ (by go_grown) hb23
      replace hB := hB.up hU23
      replace hX := hX.up hU23
      replace hG := hG.up hU23
      replace hO20 := hO20.up hU23
      replace hO21 := hO21.up hU23
      replace yhG := hG.two
      replace lhG := hG.lt
      have hw23 := Up.then_ hw22 hU23
      clear HOimpl HOspec HI hU20 hU21 hU22 hU23 hb20 hb21 hb22 hb23 hw12 hw20 hw21 hw22 hO20
      have JQ : ∀ w', RI w' A m X → RI w' A21 ob.length ob → Calls Tryz.prog 40 #[.agg #[.int .i64 N, .slice A m d], .slice A21 ob.length c21] w' (fun e w'' => e = .returned (.bool true) ∧ Below w'.heap.size w' w'') := fun w' h h2 => by rw [← (show isIvObs N X ob = true by simpa using hpo)]; exact implIsIvObs_any N A A21 m d ob.length c21 X ob w' h h2 (by omega) (by omega) hcap21.1
      clear hpo
      go_wp2_with fail
      refine (JQ _ hX hO21).mono ?_
      rintro e wT ⟨rfl, hbT⟩
      have hUT : Up w23 wT := Up.then_ (by go_grown) hbT
      replace hB := hB.up hUT
      replace hX := hX.up hUT
      replace hG := hG.up hUT
      replace hO21 := hO21.up hUT
      replace yhG := hG.two
      replace lhG := hG.lt
      have hwT := Up.then_ hw23 hUT
      clear JQ hUT hbT hw23
      clear hO21 hcap21
    case' inr.inr =>
      clear hum hpo
      have hV0 : Up w9 w9.drew := (Up.refl _).drew
      refine wp_region_held_drew (S := (fun w' => Up w9 w' ∧ (∀ b o, b < w9.heap.size → w'.cell? ⟨b, o, none⟩ = w9.cell? ⟨b, o, none⟩))) (by kernel_rfl) (by exact ⟨hV0, fun _ _ hb => hV0.cell hb⟩) (fun hHeld => ?_)
      refine wpAnyH_take (i := 0) (v := ?_) rfl (by kernel_rfl) (by kernel_rfl) (by kernel_rfl) (fun _ _ _ h => h) (Or.inl ⟨by rfl, ?_⟩) (by assumption) ?_
      rotate_left
      · (intro w' hSw; go_simp; try with_reducible rfl)
      (try simp only [List.getElem_toArray]); (try simp only [List.getElem_cons_succ]); (try simp only [List.getElem_cons_zero]); (try simp only [Act.put]); (try simp only [List.setIfInBounds_toArray]); (try simp only [List.set_cons_succ]); (try simp only [List.set_cons_zero])
      refine wpAnyH_take (i := 1) (v := ?_) rfl (by kernel_rfl) (by kernel_rfl) (by kernel_rfl) (fun _ _ _ h => h) (Or.inl ⟨by rfl, ?_⟩) (by assumption) ?_
      rotate_left
      · (intro w' hSw; go_simp; try with_reducible rfl)
      (try simp only [List.getElem_toArray]); (try simp only [List.getElem_cons_succ]); (try simp only [List.getElem_cons_zero]); (try simp only [Act.put]); (try simp only [List.setIfInBounds_toArray]); (try simp only [List.set_cons_succ]); (try simp only [List.set_cons_zero])
      refine wpAnyH_take (i := 2) (v := ?_) rfl (by kernel_rfl) (by kernel_rfl) (by kernel_rfl) (fun _ _ _ h => h) (Or.inl ⟨by rfl, ?_⟩) (by assumption) ?_
      rotate_left
      · (intro w' hSw; go_simp; try with_reducible rfl)
      (try simp only [List.getElem_toArray]); (try simp only [List.getElem_cons_succ]); (try simp only [List.getElem_cons_zero]); (try simp only [Act.put]); (try simp only [List.setIfInBounds_toArray]); (try simp only [List.set_cons_succ]); (try simp only [List.set_cons_zero])
      refine wpAnyH_take (i := 3) (v := ?_) rfl (by kernel_rfl) (by kernel_rfl) (by kernel_rfl) (fun _ _ _ h => h) (Or.inl ⟨by rfl, ?_⟩) (by assumption) ?_
      rotate_left
      · (intro w' hSw; go_simp; try with_reducible rfl)
      (try simp only [List.getElem_toArray]); (try simp only [List.getElem_cons_succ]); (try simp only [List.getElem_cons_zero]); (try simp only [Act.put]); (try simp only [List.setIfInBounds_toArray]); (try simp only [List.set_cons_succ]); (try simp only [List.set_cons_zero])
      refine wpAnyH_take (i := 4) (v := ?_) rfl (by kernel_rfl) (by kernel_rfl) (by kernel_rfl) (fun _ _ _ h => h) (Or.inl ⟨by rfl, ?_⟩) (by assumption) ?_
      rotate_left
      · (intro w' hSw; go_simp; try with_reducible rfl)
      (try simp only [List.getElem_toArray]); (try simp only [List.getElem_cons_succ]); (try simp only [List.getElem_cons_zero]); (try simp only [Act.put]); (try simp only [List.setIfInBounds_toArray]); (try simp only [List.set_cons_succ]); (try simp only [List.set_cons_zero])
      refine wpAnyH_take (i := 5) (v := ?_) rfl (by kernel_rfl) (by kernel_rfl) (by kernel_rfl) (fun _ _ _ h => h) (Or.inl ⟨by rfl, ?_⟩) (by assumption) ?_
      rotate_left
      · (intro w' hSw; go_simp; try with_reducible rfl)
      (try simp only [List.getElem_toArray]); (try simp only [List.getElem_cons_succ]); (try simp only [List.getElem_cons_zero]); (try simp only [Act.put]); (try simp only [List.setIfInBounds_toArray]); (try simp only [List.set_cons_succ]); (try simp only [List.set_cons_zero])
      refine wpAnyH_ready (rs := [6]) (by kernel_rfl) (by simp) ?_
      refine AllReadyH.cons rfl (fun K hK => ?_) AllReadyH.nil
      go_simp
      go_at_call 13
      refine (sameInts_up (hO4.up hV0) (hO5.up hV0) (by omega)).mono ?_
      rintro e w120 ⟨rfl, hb120⟩
      have hV1 := Up.then_ hV0 hb120
      go_wp2_with fail
      refine hK.out _ _ (by exact ⟨hV1, fun _ _ hb => hV1.cell hb⟩) (fun hHeld1 => ?_)
      clear hK K
      (try simp only [List.getElem_toArray]); (try simp only [List.getElem_cons_succ]); (try simp only [List.getElem_cons_zero]); (try simp only [Act.put]); (try simp only [List.setIfInBounds_toArray]); (try simp only [List.set_cons_succ]); (try simp only [List.set_cons_zero])
      refine wpAnyH_take (i := 7) (v := ?_) rfl (by kernel_rfl) (by kernel_rfl) (by kernel_rfl) (fun _ _ _ h => h) (Or.inl ⟨by rfl, ?_⟩) (by assumption) ?_
      rotate_left
      · (intro w' hSw; go_simp; try with_reducible rfl)
      (try simp only [List.getElem_toArray]); (try simp only [List.getElem_cons_succ]); (try simp only [List.getElem_cons_zero]); (try simp only [Act.put]); (try simp only [List.setIfInBounds_toArray]); (try simp only [List.set_cons_succ]); (try simp only [List.set_cons_zero])
      refine wpAnyH_take (i := 8) (v := ?_) rfl (by kernel_rfl) (by kernel_rfl) (by kernel_rfl) (fun _ _ _ h => h) (Or.inl ⟨by rfl, ?_⟩) (by assumption) ?_
      rotate_left
      · (intro w' hSw; go_simp; try with_reducible rfl)
      (try simp only [List.getElem_toArray]); (try simp only [List.getElem_cons_succ]); (try simp only [List.getElem_cons_zero]); (try simp only [Act.put]); (try simp only [List.setIfInBounds_toArray]); (try simp only [List.set_cons_succ]); (try simp only [List.set_cons_zero])
      refine wpAnyH_take (i := 9) (v := ?_) rfl (by kernel_rfl) (by kernel_rfl) (by kernel_rfl) (fun _ _ _ h => h) (Or.inl ⟨by rfl, ?_⟩) (by assumption) ?_
      rotate_left
      · (intro w' hSw; go_simp; try with_reducible rfl)
      (try simp only [List.getElem_toArray]); (try simp only [List.getElem_cons_succ]); (try simp only [List.getElem_cons_zero]); (try simp only [Act.put]); (try simp only [List.setIfInBounds_toArray]); (try simp only [List.set_cons_succ]); (try simp only [List.set_cons_zero])
      refine wpAnyH_take (i := 10) (v := ?_) rfl (by kernel_rfl) (by kernel_rfl) (by kernel_rfl) (fun _ _ _ h => h) (Or.inl ⟨by rfl, ?_⟩) (by assumption) ?_
      rotate_left
      · (intro w' hSw; go_simp; try with_reducible rfl)
      (try simp only [List.getElem_toArray]); (try simp only [List.getElem_cons_succ]); (try simp only [List.getElem_cons_zero]); (try simp only [Act.put]); (try simp only [List.setIfInBounds_toArray]); (try simp only [List.set_cons_succ]); (try simp only [List.set_cons_zero])
      refine wpAnyH_take (i := 11) (v := ?_) rfl (by kernel_rfl) (by kernel_rfl) (by kernel_rfl) (fun _ _ _ h => h) (Or.inl ⟨by rfl, ?_⟩) (by assumption) ?_
      rotate_left
      · (intro w' hSw; go_simp; try with_reducible rfl)
      (try simp only [List.getElem_toArray]); (try simp only [List.getElem_cons_succ]); (try simp only [List.getElem_cons_zero]); (try simp only [Act.put]); (try simp only [List.setIfInBounds_toArray]); (try simp only [List.set_cons_succ]); (try simp only [List.set_cons_zero])
      refine wpAnyH_take (i := 12) (v := ?_) rfl (by kernel_rfl) (by kernel_rfl) (by kernel_rfl) (fun _ _ _ h => h) (Or.inl ⟨by rfl, ?_⟩) (by assumption) ?_
      rotate_left
      · (intro w' hSw; go_simp; try with_reducible rfl)
      (try simp only [List.getElem_toArray]); (try simp only [List.getElem_cons_succ]); (try simp only [List.getElem_cons_zero]); (try simp only [Act.put]); (try simp only [List.setIfInBounds_toArray]); (try simp only [List.set_cons_succ]); (try simp only [List.set_cons_zero])
      refine wpAnyH_take (i := 13) (v := ?_) rfl (by kernel_rfl) (by kernel_rfl) (by kernel_rfl) (fun _ _ _ h => h) (Or.inl ⟨by rfl, ?_⟩) (by assumption) ?_
      rotate_left
      · (intro w' hSw; go_simp; try with_reducible rfl)
      (try simp only [List.getElem_toArray]); (try simp only [List.getElem_cons_succ]); (try simp only [List.getElem_cons_zero]); (try simp only [Act.put]); (try simp only [List.setIfInBounds_toArray]); (try simp only [List.set_cons_succ]); (try simp only [List.set_cons_zero])
      refine wpAnyH_take (i := 14) (v := ?_) rfl (by kernel_rfl) (by kernel_rfl) (by kernel_rfl) (fun _ _ _ h => h) (Or.inl ⟨by rfl, ?_⟩) (by assumption) ?_
      rotate_left
      · (intro w' hSw; go_simp; try with_reducible rfl)
      (try simp only [List.getElem_toArray]); (try simp only [List.getElem_cons_succ]); (try simp only [List.getElem_cons_zero]); (try simp only [Act.put]); (try simp only [List.setIfInBounds_toArray]); (try simp only [List.set_cons_succ]); (try simp only [List.set_cons_zero])
      refine wpAnyH_take (i := 15) (v := ?_) rfl (by kernel_rfl) (by kernel_rfl) (by kernel_rfl) (fun _ _ _ h => h) (Or.inl ⟨by rfl, ?_⟩) (by assumption) ?_
      rotate_left
      · (intro w' hSw; go_simp; try with_reducible rfl)
      (try simp only [List.getElem_toArray]); (try simp only [List.getElem_cons_succ]); (try simp only [List.getElem_cons_zero]); (try simp only [Act.put]); (try simp only [List.setIfInBounds_toArray]); (try simp only [List.set_cons_succ]); (try simp only [List.set_cons_zero])
      refine wpAnyH_take (i := 16) (v := ?_) rfl (by kernel_rfl) (by kernel_rfl) (by kernel_rfl) (fun _ _ _ h => h) (Or.inl ⟨by rfl, ?_⟩) (by assumption) ?_
      rotate_left
      · (intro w' hSw; go_simp; try with_reducible rfl)
      (try simp only [List.getElem_toArray]); (try simp only [List.getElem_cons_succ]); (try simp only [List.getElem_cons_zero]); (try simp only [Act.put]); (try simp only [List.setIfInBounds_toArray]); (try simp only [List.set_cons_succ]); (try simp only [List.set_cons_zero])
      refine wpAnyH_ready (rs := [17]) (by kernel_rfl) (by simp) ?_
      refine AllReadyH.cons rfl (fun K hK => ?_) AllReadyH.nil
      go_simp
      go_at_call 14
      refine (sameModel_up (hP6.up hV1) (hQ6.up hV1) (hP8.up hV1) (hQ8.up hV1) (by omega) (by omega)).mono ?_
      rintro e w121 ⟨rfl, hb121⟩
      have hV2 := Up.then_ hV1 hb121
      go_wp2_with fail
      refine hK.out _ _ (by exact ⟨hV2, fun _ _ hb => hV2.cell hb⟩) (fun hHeld2 => ?_)
      clear hK K
      (try simp only [List.getElem_toArray]); (try simp only [List.getElem_cons_succ]); (try simp only [List.getElem_cons_zero]); (try simp only [Act.put]); (try simp only [List.setIfInBounds_toArray]); (try simp only [List.set_cons_succ]); (try simp only [List.set_cons_zero])
      refine wpAnyH_take (i := 18) (v := ?_) rfl (by kernel_rfl) (by kernel_rfl) (by kernel_rfl) (fun _ _ _ h => h) (Or.inl ⟨by rfl, ?_⟩) (by assumption) ?_
      rotate_left
      · (intro w' hSw; go_simp; try with_reducible rfl)
      (try simp only [List.getElem_toArray]); (try simp only [List.getElem_cons_succ]); (try simp only [List.getElem_cons_zero]); (try simp only [Act.put]); (try simp only [List.setIfInBounds_toArray]); (try simp only [List.set_cons_succ]); (try simp only [List.set_cons_zero])
      refine wpAnyH_take (i := 19) (v := ?_) rfl (by kernel_rfl) (by kernel_rfl) (by kernel_rfl) (fun _ _ _ h => h) (Or.inl ⟨by rfl, ?_⟩) (by assumption) ?_
      rotate_left
      · (intro w' hSw; go_simp; try with_reducible rfl)
      (try simp only [List.getElem_toArray]); (try simp only [List.getElem_cons_succ]); (try simp only [List.getElem_cons_zero]); (try simp only [Act.put]); (try simp only [List.setIfInBounds_toArray]); (try simp only [List.set_cons_succ]); (try simp only [List.set_cons_zero])
      refine wpAnyH_take (i := 20) (v := ?_) rfl (by kernel_rfl) (by kernel_rfl) (by kernel_rfl) (fun _ _ _ h => h) (Or.inl ⟨by rfl, ?_⟩) (by assumption) ?_
      rotate_left
      · (intro w' hSw; go_simp; try with_reducible rfl)
      (try simp only [List.getElem_toArray]); (try simp only [List.getElem_cons_succ]); (try simp only [List.getElem_cons_zero]); (try simp only [Act.put]); (try simp only [List.setIfInBounds_toArray]); (try simp only [List.set_cons_succ]); (try simp only [List.set_cons_zero])
      refine wpAnyH_take (i := 21) (v := ?_) rfl (by kernel_rfl) (by kernel_rfl) (by kernel_rfl) (fun _ _ _ h => h) (Or.inl ⟨by rfl, ?_⟩) (by assumption) ?_
      rotate_left
      · (intro w' hSw; go_simp; try with_reducible rfl)
      (try simp only [List.getElem_toArray]); (try simp only [List.getElem_cons_succ]); (try simp only [List.getElem_cons_zero]); (try simp only [Act.put]); (try simp only [List.setIfInBounds_toArray]); (try simp only [List.set_cons_succ]); (try simp only [List.set_cons_zero])
      refine wpAnyH_take (i := 23) (v := ?_) rfl (by kernel_rfl) (by kernel_rfl) (by kernel_rfl) (fun _ _ _ h => h) (Or.inl ⟨by rfl, ?_⟩) (by assumption) ?_
      rotate_left
      · (intro w' hSw; go_simp; try with_reducible rfl)
      (try simp only [List.getElem_toArray]); (try simp only [List.getElem_cons_succ]); (try simp only [List.getElem_cons_zero]); (try simp only [Act.put]); (try simp only [List.setIfInBounds_toArray]); (try simp only [List.set_cons_succ]); (try simp only [List.set_cons_zero])
      refine wpAnyH_ready (rs := [22]) (by kernel_rfl) (by simp) ?_
      refine AllReadyH.cons rfl (fun K hK => ?_) AllReadyH.nil
      go_simp
      go_at_call 34
      refine (HP _ (hX.up hV2)).mono ?_
      rintro e w122 ⟨rfl, hb122⟩
      have hV3 := Up.then_ hV2 hb122
      go_wp2_with fail
      refine hK.out _ _ (by exact ⟨hV3, fun _ _ hb => hV3.cell hb⟩) (fun hHeld3 => ?_)
      clear hK K
      (try simp only [List.getElem_toArray]); (try simp only [List.getElem_cons_succ]); (try simp only [List.getElem_cons_zero]); (try simp only [Act.put]); (try simp only [List.setIfInBounds_toArray]); (try simp only [List.set_cons_succ]); (try simp only [List.set_cons_zero])
      refine wpAnyH_take (i := 24) (v := ?_) rfl (by kernel_rfl) (by kernel_rfl) (by kernel_rfl) (fun _ _ _ h => h) (Or.inl ⟨by rfl, ?_⟩) (by assumption) ?_
      rotate_left
      · (intro w' hSw; go_simp; try with_reducible rfl)
      (try simp only [List.getElem_toArray]); (try simp only [List.getElem_cons_succ]); (try simp only [List.getElem_cons_zero]); (try simp only [Act.put]); (try simp only [List.setIfInBounds_toArray]); (try simp only [List.set_cons_succ]); (try simp only [List.set_cons_zero])
      refine wpAnyH_take (i := 25) (v := ?_) rfl (by kernel_rfl) (by kernel_rfl) (by kernel_rfl) (fun _ _ _ h => h) (Or.inl ⟨by rfl, ?_⟩) (by assumption) ?_
      rotate_left
      · (intro w' hSw; go_simp; try with_reducible rfl)
      (try simp only [List.getElem_toArray]); (try simp only [List.getElem_cons_succ]); (try simp only [List.getElem_cons_zero]); (try simp only [Act.put]); (try simp only [List.setIfInBounds_toArray]); (try simp only [List.set_cons_succ]); (try simp only [List.set_cons_zero])
      refine wpAnyH_take (i := 26) (v := ?_) rfl (by kernel_rfl) (by kernel_rfl) (by kernel_rfl) (fun _ _ _ h => h) (Or.inl ⟨by rfl, ?_⟩) (by assumption) ?_
      rotate_left
      · (intro w' hSw; go_simp; try with_reducible rfl)
      (try simp only [List.getElem_toArray]); (try simp only [List.getElem_cons_succ]); (try simp only [List.getElem_cons_zero]); (try simp only [Act.put]); (try simp only [List.setIfInBounds_toArray]); (try simp only [List.set_cons_succ]); (try simp only [List.set_cons_zero])
      refine wpAnyH_take (i := 27) (v := ?_) rfl (by kernel_rfl) (by kernel_rfl) (by kernel_rfl) (fun _ _ _ h => h) (Or.inl ⟨by rfl, ?_⟩) (by assumption) ?_
      rotate_left
      · (intro w' hSw; go_simp; try with_reducible rfl)
      (try simp only [List.getElem_toArray]); (try simp only [List.getElem_cons_succ]); (try simp only [List.getElem_cons_zero]); (try simp only [Act.put]); (try simp only [List.setIfInBounds_toArray]); (try simp only [List.set_cons_succ]); (try simp only [List.set_cons_zero])
      refine wpAnyH_take (i := 28) (v := ?_) rfl (by kernel_rfl) (by kernel_rfl) (by kernel_rfl) (fun _ _ _ h => h) (Or.inl ⟨by rfl, ?_⟩) (by assumption) ?_
      rotate_left
      · (intro w' hSw; go_simp; try with_reducible rfl)
      (try simp only [List.getElem_toArray]); (try simp only [List.getElem_cons_succ]); (try simp only [List.getElem_cons_zero]); (try simp only [Act.put]); (try simp only [List.setIfInBounds_toArray]); (try simp only [List.set_cons_succ]); (try simp only [List.set_cons_zero])
      refine wpAnyH_take (i := 29) (v := ?_) rfl (by kernel_rfl) (by kernel_rfl) (by kernel_rfl) (fun _ _ _ h => h) (Or.inl ⟨by rfl, ?_⟩) (by assumption) ?_
      rotate_left
      · (intro w' hSw; go_simp; try with_reducible rfl)
      (try simp only [List.getElem_toArray]); (try simp only [List.getElem_cons_succ]); (try simp only [List.getElem_cons_zero]); (try simp only [Act.put]); (try simp only [List.setIfInBounds_toArray]); (try simp only [List.set_cons_succ]); (try simp only [List.set_cons_zero])
      refine wpAnyH_take (i := 30) (v := ?_) rfl (by kernel_rfl) (by kernel_rfl) (by kernel_rfl) (fun _ _ _ h => h) (Or.inl ⟨by rfl, ?_⟩) (by assumption) ?_
      rotate_left
      · (intro w' hSw; go_simp; try with_reducible rfl)
      (try simp only [List.getElem_toArray]); (try simp only [List.getElem_cons_succ]); (try simp only [List.getElem_cons_zero]); (try simp only [Act.put]); (try simp only [List.setIfInBounds_toArray]); (try simp only [List.set_cons_succ]); (try simp only [List.set_cons_zero])
      refine wpAnyH_take (i := 31) (v := ?_) rfl (by kernel_rfl) (by kernel_rfl) (by kernel_rfl) (fun _ _ _ h => h) (Or.inl ⟨by rfl, ?_⟩) (by assumption) ?_
      rotate_left
      · (intro w' hSw; go_simp; try with_reducible rfl)
      (try simp only [List.getElem_toArray]); (try simp only [List.getElem_cons_succ]); (try simp only [List.getElem_cons_zero]); (try simp only [Act.put]); (try simp only [List.setIfInBounds_toArray]); (try simp only [List.set_cons_succ]); (try simp only [List.set_cons_zero])
      refine wpAnyH_take (i := 32) (v := ?_) rfl (by kernel_rfl) (by kernel_rfl) (by kernel_rfl) (fun _ _ _ h => h) (Or.inl ⟨by rfl, ?_⟩) (by assumption) ?_
      rotate_left
      · (intro w' hSw; go_simp; try with_reducible rfl)
      (try simp only [List.getElem_toArray]); (try simp only [List.getElem_cons_succ]); (try simp only [List.getElem_cons_zero]); (try simp only [Act.put]); (try simp only [List.setIfInBounds_toArray]); (try simp only [List.set_cons_succ]); (try simp only [List.set_cons_zero])
      refine wpAnyH_take (i := 33) (v := ?_) rfl (by kernel_rfl) (by kernel_rfl) (by kernel_rfl) (fun _ _ _ h => h) (Or.inl ⟨by rfl, ?_⟩) (by assumption) ?_
      rotate_left
      · (intro w' hSw; go_simp; try with_reducible rfl)
      (try simp only [List.getElem_toArray]); (try simp only [List.getElem_cons_succ]); (try simp only [List.getElem_cons_zero]); (try simp only [Act.put]); (try simp only [List.setIfInBounds_toArray]); (try simp only [List.set_cons_succ]); (try simp only [List.set_cons_zero])
      refine wpAnyH_take (i := 34) (v := undef) rfl (by kernel_rfl) (by kernel_rfl) (by kernel_rfl) (fun _ _ _ h => h) (Or.inr ⟨by rfl, rfl⟩) (by assumption) ?_
      (try simp only [List.getElem_toArray]); (try simp only [List.getElem_cons_succ]); (try simp only [List.getElem_cons_zero]); (try simp only [Act.put]); (try simp only [List.setIfInBounds_toArray]); (try simp only [List.set_cons_succ]); (try simp only [List.set_cons_zero])
      refine wpAnyH_take (i := 35) (v := undef) rfl (by kernel_rfl) (by kernel_rfl) (by kernel_rfl) (fun _ _ _ h => h) (Or.inr ⟨by rfl, rfl⟩) (by assumption) ?_
      (try simp only [List.getElem_toArray]); (try simp only [List.getElem_cons_succ]); (try simp only [List.getElem_cons_zero]); (try simp only [Act.put]); (try simp only [List.setIfInBounds_toArray]); (try simp only [List.set_cons_succ]); (try simp only [List.set_cons_zero])
      refine wpAnyH_take (i := 36) (v := undef) rfl (by kernel_rfl) (by kernel_rfl) (by kernel_rfl) (fun _ _ _ h => h) (Or.inr ⟨by rfl, rfl⟩) (by assumption) ?_
      (try simp only [List.getElem_toArray]); (try simp only [List.getElem_cons_succ]); (try simp only [List.getElem_cons_zero]); (try simp only [Act.put]); (try simp only [List.setIfInBounds_toArray]); (try simp only [List.set_cons_succ]); (try simp only [List.set_cons_zero])
      refine wpAnyH_take (i := 37) (v := undef) rfl (by kernel_rfl) (by kernel_rfl) (by kernel_rfl) (fun _ _ _ h => h) (Or.inr ⟨by rfl, rfl⟩) (by assumption) ?_
      (try simp only [List.getElem_toArray]); (try simp only [List.getElem_cons_succ]); (try simp only [List.getElem_cons_zero]); (try simp only [Act.put]); (try simp only [List.setIfInBounds_toArray]); (try simp only [List.set_cons_succ]); (try simp only [List.set_cons_zero])
      refine wpAnyH_take (i := 38) (v := undef) rfl (by kernel_rfl) (by kernel_rfl) (by kernel_rfl) (fun _ _ _ h => h) (Or.inr ⟨by rfl, rfl⟩) (by assumption) ?_
      (try simp only [List.getElem_toArray]); (try simp only [List.getElem_cons_succ]); (try simp only [List.getElem_cons_zero]); (try simp only [Act.put]); (try simp only [List.setIfInBounds_toArray]); (try simp only [List.set_cons_succ]); (try simp only [List.set_cons_zero])
      refine wpAnyH_take (i := 39) (v := undef) rfl (by kernel_rfl) (by kernel_rfl) (by kernel_rfl) (fun _ _ _ h => h) (Or.inr ⟨by rfl, rfl⟩) (by assumption) ?_
      (try simp only [List.getElem_toArray]); (try simp only [List.getElem_cons_succ]); (try simp only [List.getElem_cons_zero]); (try simp only [Act.put]); (try simp only [List.setIfInBounds_toArray]); (try simp only [List.set_cons_succ]); (try simp only [List.set_cons_zero])
      refine wpAnyH_take (i := 40) (v := undef) rfl (by kernel_rfl) (by kernel_rfl) (by kernel_rfl) (fun _ _ _ h => h) (Or.inr ⟨by rfl, rfl⟩) (by assumption) ?_
      (try simp only [List.getElem_toArray]); (try simp only [List.getElem_cons_succ]); (try simp only [List.getElem_cons_zero]); (try simp only [Act.put]); (try simp only [List.setIfInBounds_toArray]); (try simp only [List.set_cons_succ]); (try simp only [List.set_cons_zero])
      refine wpAnyH_take (i := 41) (v := undef) rfl (by kernel_rfl) (by kernel_rfl) (by kernel_rfl) (fun _ _ _ h => h) (Or.inr ⟨by rfl, rfl⟩) (by assumption) ?_
      (try simp only [List.getElem_toArray]); (try simp only [List.getElem_cons_succ]); (try simp only [List.getElem_cons_zero]); (try simp only [Act.put]); (try simp only [List.setIfInBounds_toArray]); (try simp only [List.set_cons_succ]); (try simp only [List.set_cons_zero])
      refine wpAnyH_take (i := 42) (v := undef) rfl (by kernel_rfl) (by kernel_rfl) (by kernel_rfl) (fun _ _ _ h => h) (Or.inr ⟨by rfl, rfl⟩) (by assumption) ?_
      (try simp only [List.getElem_toArray]); (try simp only [List.getElem_cons_succ]); (try simp only [List.getElem_cons_zero]); (try simp only [Act.put]); (try simp only [List.setIfInBounds_toArray]); (try simp only [List.set_cons_succ]); (try simp only [List.set_cons_zero])
      refine wpAnyH_take (i := 43) (v := undef) rfl (by kernel_rfl) (by kernel_rfl) (by kernel_rfl) (fun _ _ _ h => h) (Or.inr ⟨by rfl, rfl⟩) (by assumption) ?_
      (try simp only [List.getElem_toArray]); (try simp only [List.getElem_cons_succ]); (try simp only [List.getElem_cons_zero]); (try simp only [Act.put]); (try simp only [List.setIfInBounds_toArray]); (try simp only [List.set_cons_succ]); (try simp only [List.set_cons_zero])
      refine wpAnyH_take (i := 44) (v := undef) rfl (by kernel_rfl) (by kernel_rfl) (by kernel_rfl) (fun _ _ _ h => h) (Or.inr ⟨by rfl, rfl⟩) (by assumption) ?_
      (try simp only [List.getElem_toArray]); (try simp only [List.getElem_cons_succ]); (try simp only [List.getElem_cons_zero]); (try simp only [Act.put]); (try simp only [List.setIfInBounds_toArray]); (try simp only [List.set_cons_succ]); (try simp only [List.set_cons_zero])
      refine wpAnyH_take (i := 45) (v := undef) rfl (by kernel_rfl) (by kernel_rfl) (by kernel_rfl) (fun _ _ _ h => h) (Or.inr ⟨by rfl, rfl⟩) (by assumption) ?_
      (try simp only [List.getElem_toArray]); (try simp only [List.getElem_cons_succ]); (try simp only [List.getElem_cons_zero]); (try simp only [Act.put]); (try simp only [List.setIfInBounds_toArray]); (try simp only [List.set_cons_succ]); (try simp only [List.set_cons_zero])
      refine wpAnyH_take (i := 46) (v := undef) rfl (by kernel_rfl) (by kernel_rfl) (by kernel_rfl) (fun _ _ _ h => h) (Or.inr ⟨by rfl, rfl⟩) (by assumption) ?_
      (try simp only [List.getElem_toArray]); (try simp only [List.getElem_cons_succ]); (try simp only [List.getElem_cons_zero]); (try simp only [Act.put]); (try simp only [List.setIfInBounds_toArray]); (try simp only [List.set_cons_succ]); (try simp only [List.set_cons_zero])
      refine wpAnyH_take (i := 47) (v := undef) rfl (by kernel_rfl) (by kernel_rfl) (by kernel_rfl) (fun _ _ _ h => h) (Or.inr ⟨by rfl, rfl⟩) (by assumption) ?_
      (try simp only [List.getElem_toArray]); (try simp only [List.getElem_cons_succ]); (try simp only [List.getElem_cons_zero]); (try simp only [Act.put]); (try simp only [List.setIfInBounds_toArray]); (try simp only [List.set_cons_succ]); (try simp only [List.set_cons_zero])
      refine wpAnyH_take (i := 48) (v := undef) rfl (by kernel_rfl) (by kernel_rfl) (by kernel_rfl) (fun _ _ _ h => h) (Or.inr ⟨by rfl, rfl⟩) (by assumption) ?_
      (try simp only [List.getElem_toArray]); (try simp only [List.getElem_cons_succ]); (try simp only [List.getElem_cons_zero]); (try simp only [Act.put]); (try simp only [List.setIfInBounds_toArray]); (try simp only [List.set_cons_succ]); (try simp only [List.set_cons_zero])
      refine wpAnyH_take (i := 49) (v := ?_) rfl (by kernel_rfl) (by kernel_rfl) (by kernel_rfl) (fun _ _ _ h => h) (Or.inl ⟨by rfl, ?_⟩) (by assumption) ?_
      rotate_left
      · (intro w' hSw; go_simp; try with_reducible rfl)
      (try simp only [List.getElem_toArray]); (try simp only [List.getElem_cons_succ]); (try simp only [List.getElem_cons_zero]); (try simp only [Act.put]); (try simp only [List.setIfInBounds_toArray]); (try simp only [List.set_cons_succ]); (try simp only [List.set_cons_zero])
      refine wpAnyH_take (i := 50) (v := ?_) rfl (by kernel_rfl) (by kernel_rfl) (by kernel_rfl) (fun _ _ _ h => h) (Or.inl ⟨by rfl, ?_⟩) (by assumption) ?_
      rotate_left
      · (intro w' hSw; go_simp; try with_reducible rfl)
      (try simp only [List.getElem_toArray]); (try simp only [List.getElem_cons_succ]); (try simp only [List.getElem_cons_zero]); (try simp only [Act.put]); (try simp only [List.setIfInBounds_toArray]); (try simp only [List.set_cons_succ]); (try simp only [List.set_cons_zero])
      refine wpAnyH_take (i := 51) (v := ?_) rfl (by kernel_rfl) (by kernel_rfl) (by kernel_rfl) (fun _ _ _ h => h) (Or.inl ⟨by rfl, ?_⟩) (by assumption) ?_
      rotate_left
      · (intro w' hSw; go_simp; try with_reducible rfl)
      (try simp only [List.getElem_toArray]); (try simp only [List.getElem_cons_succ]); (try simp only [List.getElem_cons_zero]); (try simp only [Act.put]); (try simp only [List.setIfInBounds_toArray]); (try simp only [List.set_cons_succ]); (try simp only [List.set_cons_zero])
      refine wpAnyH_take (i := 52) (v := ?_) rfl (by kernel_rfl) (by kernel_rfl) (by kernel_rfl) (fun _ _ _ h => h) (Or.inl ⟨by rfl, ?_⟩) (by assumption) ?_
      rotate_left
      · (intro w' hSw; go_simp; try with_reducible rfl)
      (try simp only [List.getElem_toArray]); (try simp only [List.getElem_cons_succ]); (try simp only [List.getElem_cons_zero]); (try simp only [Act.put]); (try simp only [List.setIfInBounds_toArray]); (try simp only [List.set_cons_succ]); (try simp only [List.set_cons_zero])
      refine wpAnyH_take (i := 54) (v := ?_) rfl (by kernel_rfl) (by kernel_rfl) (by kernel_rfl) (fun _ _ _ h => h) (Or.inl ⟨by rfl, ?_⟩) (by assumption) ?_
      rotate_left
      · (intro w' hSw; go_simp; try with_reducible rfl)
      (try simp only [List.getElem_toArray]); (try simp only [List.getElem_cons_succ]); (try simp only [List.getElem_cons_zero]); (try simp only [Act.put]); (try simp only [List.setIfInBounds_toArray]); (try simp only [List.set_cons_succ]); (try simp only [List.set_cons_zero])
      refine wpAnyH_ready (rs := [53]) (by kernel_rfl) (by simp) ?_
      refine AllReadyH.cons rfl (fun K hK => ?_) AllReadyH.nil
      go_simp
      go_at_call 36
      refine (HCimpl _ (hX.up hV3)).mono ?_
      rintro e w123 ⟨rfl, hb123⟩
      have hV4 := Up.then_ hV3 hb123
      go_wp2_with fail
      refine hK.out _ _ (by exact ⟨hV4, fun _ _ hb => hV4.cell hb⟩) (fun hHeld4 => ?_)
      clear hK K
      (try simp only [List.getElem_toArray]); (try simp only [List.getElem_cons_succ]); (try simp only [List.getElem_cons_zero]); (try simp only [Act.put]); (try simp only [List.setIfInBounds_toArray]); (try simp only [List.set_cons_succ]); (try simp only [List.set_cons_zero])
      refine wpAnyH_ready (rs := [55]) (by kernel_rfl) (by simp) ?_
      refine AllReadyH.cons rfl (fun K hK => ?_) AllReadyH.nil
      go_simp
      go_at_call 37
      refine (HCspec _ (hX.up hV4)).mono ?_
      rintro e w124 ⟨rfl, hb124⟩
      have hV5 := Up.then_ hV4 hb124
      go_wp2_with fail
      refine hK.out _ _ (by exact ⟨hV5, fun _ _ hb => hV5.cell hb⟩) (fun hHeld5 => ?_)
      clear hK K
      (try simp only [List.getElem_toArray]); (try simp only [List.getElem_cons_succ]); (try simp only [List.getElem_cons_zero]); (try simp only [Act.put]); (try simp only [List.setIfInBounds_toArray]); (try simp only [List.set_cons_succ]); (try simp only [List.set_cons_zero])
      refine wpAnyH_take (i := 56) (v := ?_) rfl (by kernel_rfl) (by kernel_rfl) (by kernel_rfl) (fun _ _ _ h => h) (Or.inl ⟨by rfl, ?_⟩) (by assumption) ?_
      rotate_left
      · (intro w' hSw; go_simp; try with_reducible rfl)
      (try simp only [List.getElem_toArray]); (try simp only [List.getElem_cons_succ]); (try simp only [List.getElem_cons_zero]); (try simp only [Act.put]); (try simp only [List.setIfInBounds_toArray]); (try simp only [List.set_cons_succ]); (try simp only [List.set_cons_zero])
      refine wpAnyH_take (i := 57) (v := ?_) rfl (by kernel_rfl) (by kernel_rfl) (by kernel_rfl) (fun _ _ _ h => h) (Or.inl ⟨by rfl, ?_⟩) (by assumption) ?_
      rotate_left
      · (intro w' hSw; go_simp; try with_reducible rfl)
      (try simp only [List.getElem_toArray]); (try simp only [List.getElem_cons_succ]); (try simp only [List.getElem_cons_zero]); (try simp only [Act.put]); (try simp only [List.setIfInBounds_toArray]); (try simp only [List.set_cons_succ]); (try simp only [List.set_cons_zero])
      refine wpAnyH_done (by kernel_rfl) ?_ _
      have hU12 := hV5
      replace hB := hB.up hU12
      replace hX := hX.up hU12
      replace hG := hG.up hU12
      replace hO4 := hO4.up hU12
      replace hO5 := hO5.up hU12
      replace hG7 := hG7.up hU12
      replace hP6 := hP6.up hU12
      replace hQ6 := hQ6.up hU12
      replace hG9 := hG9.up hU12
      replace hP8 := hP8.up hU12
      replace hQ8 := hQ8.up hU12
      replace yhG := hG.two
      replace lhG := hG.lt
      replace yhG7 := hG7.two
      replace lhG7 := hG7.lt
      replace yhG9 := hG9.two
      replace lhG9 := hG9.lt
      have hw12 := Up.then_ hw9 hU12
      clear hV0 hV1 hV2 hV3 hV4 hb120 hb121 hb122 hb123 hb124 hHeld hHeld1 hHeld2 hHeld3 hHeld4 hHeld5 hU12 hw9 HP HCimpl HCspec hO4 hO5 hG7 yhG7 lhG7 hP6 hQ6 hG9 yhG9 lhG9 hP8 hQ8
      go_wp2_with fail
      refine (HOimpl _ hX).mono ?_
      rintro e w20 ⟨A20, c20, rfl, hO20, hb20⟩
      have hU20 : Up w124 w20 := Up.then_ (by go_grown) hb20
      replace hB := hB.up hU20
      replace hX := hX.up hU20
      replace hG := hG.up hU20
      replace yhG := hG.two
      replace lhG := hG.lt
      have hw20 := Up.then_ hw12 hU20
      replace hO20 := hO20.ri
      replace yhG := hG.two
      replace lhG := hG.lt
      go_wp2_with fail
      refine (HOspec _ hX).mono ?_
      rintro e w21 ⟨A21, c21, rfl, hO21, hb21⟩
      have hU21 : Up w20 w21 := Up.then_ (by go_grown) hb21
      replace hB := hB.up hU21
      replace hX := hX.up hU21
      replace hG := hG.up hU21
      replace hO20 := hO20.up hU21
      replace yhG := hG.two
      replace lhG := hG.lt
      have hw21 := Up.then_ hw20 hU21
      have hcap21 := hO21.cap
      replace hO21 := hO21.ri
      replace yhG := hG.two
      replace lhG := hG.lt
      go_wp2_with fail
      refine (sameInts_up hO20 hO21 (by omega)).mono ?_
      rintro e w22 ⟨rfl, hb22⟩
      have hU22 : Up w21 w22 := Up.then_ (by go_grown) hb22
      replace hB := hB.up hU22
      replace hX := hX.up hU22
      replace hG := hG.up hU22
      replace hO20 := hO20.up hU22
      replace hO21 := hO21.up hU22
      replace yhG := hG.two
      replace lhG := hG.lt
      have hw22 := Up.then_ hw21 hU22
      go_wp2_with fail
      refine (HI _ hX).mono ?_
      rintro e wT ⟨rfl, hbT⟩
      have hUT : Up w22 wT := Up.then_ (by go_grown) hbT
      replace hB := hB.up hUT
      replace hX := hX.up hUT
      replace hG := hG.up hUT
      replace hO20 := hO20.up hUT
      replace hO21 := hO21.up hUT
      replace yhG := hG.two
      replace lhG := hG.lt
      have hwT := Up.then_ hw22 hUT
      clear HOimpl HOspec HI hU20 hU21 hU22 hUT hb20 hb21 hb22 hbT hw12 hw20 hw21 hw22 hO20
      clear hO21 hcap21
    all_goals
      as_aux_lemma =>
      clear hX hG yhG lhG
      have hlowT : ∀ ad, B = some ad → ad.block < wT.heap.size := fun ad e => by have := hlow ad e; have := hwT.size; omega
      go_wp2_with fail
      refine (drawTriplePaths_any B n c bs _ hB hs hlowT).mono ?_
      rintro e w30 ⟨N2, P2, m2, d2, X2, ta, tb, tc, rfl, hP2, hle2, hb30⟩
      have hU30 : Up wT w30 := Up.then_ (by go_grown) hb30
      replace hB := hB.up hU30
      have hw30 := Up.then_ hwT hU30
      have hm2 : m2 ≤ 7 := by rw [← hP2.len]; exact le6L_len hle2
      replace hP2 := hP2.ri
      clear hle2
      have hU31 : Up w30 (w30.alloc (.cells #[.int .i64 N2, .slice P2 m2 d2] 26)) := by go_grown
      have hG2 := Blk.new w30 26 #[.int .i64 N2, .slice P2 m2 d2]
      have hw31 := Up.then_ hw30 hU31
      replace hP2 := hP2.up hU31
      replace hB := hB.up hU31
      obtain ⟨g31, hg31⟩ : ∃ g31, g31 = w30.heap.size := ⟨_, rfl⟩
      rw [← hg31] at hG2
      go_wp2_with fail
      rw [← hg31]
      generalize w30.alloc (.cells #[.int .i64 N2, .slice P2 m2 d2] 26) = w31 at hG2 hP2 hB hw31 ⊢
      have hlow31 : ∀ ad, B = some ad → ad.block < w31.heap.size := fun ad e => by have := hlow ad e; have := hw31.size; omega
      clear hg31 hU31
      have yhG2 := hG2.two
      have lhG2 := hG2.lt
      clear hU30 hb30 hw30 hlowT
      obtain ⟨tp, htp⟩ : ∃ tp, tp = tripPaths N2 X2 ta tb tc := ⟨_, rfl⟩
      obtain ⟨it, hit⟩ : ∃ it, it = isTrip N2 X2 ta tb tc := ⟨_, rfl⟩
      have htl : tp.length ≤ 1048576 := by rw [htp]; exact (tripPaths_len N2 X2 ta tb tc).2
      have HTI : ∀ w', RI w' P2 m2 X2 → Calls Tryz.prog 42 #[.agg #[.int .i64 N2, .slice P2 m2 d2], .int .i64 ta, .int .i64 tb, .int .i64 tc] w' (GivesSB tp it w') := fun w' h => by rw [htp, hit]; exact implTriplePaths_any N2 P2 m2 d2 X2 ta tb tc w' h (by omega)
      have HTS : ∀ w', RI w' P2 m2 X2 → Calls Tryz.prog 43 #[.agg #[.int .i64 N2, .slice P2 m2 d2], .int .i64 ta, .int .i64 tb, .int .i64 tc] w' (GivesSB tp it w') := fun w' h => by rw [htp, hit]; exact specTriplePaths_any N2 P2 m2 d2 X2 ta tb tc w' h (by omega)
      have HT1 : ∀ w', RI w' P2 m2 X2 → Calls Tryz.prog 45 #[.agg #[.int .i64 N2, .slice P2 m2 d2], .int .i64 ta, .int .i64 tb, .int .i64 tc] w' (fun e w'' => e = .returned (.bool it) ∧ Below w'.heap.size w' w'') := fun w' h => by rw [hit]; exact implIsTriple_any N2 ta tb tc P2 m2 d2 X2 w' h (by omega)
      have HT2 : ∀ w', RI w' P2 m2 X2 → Calls Tryz.prog 45 #[.agg #[.int .i64 N2, .slice P2 m2 d2], .int .i64 tb, .int .i64 tc, .int .i64 ta] w' (fun e w'' => e = .returned (.bool it) ∧ Below w'.heap.size w' w'') := fun w' h => by rw [hit, ← isTrip_turn]; exact implIsTriple_any N2 tb tc ta P2 m2 d2 X2 w' h (by omega)
      have HTR := fun (ps : List RowP) => Lib.hid (show ps.map Prod.snd = tp → (ps.length = tp.length ∧ ∀ p ∈ ps, p.2.length ≤ 1048576) from fun e => ⟨by have := congrArg List.length e; simpa using this, tripPaths_rows (by rw [← htp]; exact e)⟩)
      clear htp hit
      go_wp2_with fail
      refine (HTI _ hP2).mono ?_
      rintro e w32 ⟨A32, c32, ps, hps, rfl, hO32, hb32⟩
      have hU32 : Up w31 w32 := Up.then_ (by go_grown) hb32
      replace hB := hB.up hU32
      replace hP2 := hP2.up hU32
      replace hG2 := hG2.up hU32
      replace yhG2 := hG2.two
      replace lhG2 := hG2.lt
      have HPS := Lib.hid hps
      have hpl2 := ((HTR ps).out hps).1
      rw [hpl2] at hO32 ⊢
      clear hps hpl2
      replace yhG2 := hG2.two
      replace lhG2 := hG2.lt
      have hw32 := Up.then_ hw31 hU32
      go_wp2_with fail
      refine (HTS _ hP2).mono ?_
      rintro e w33 ⟨A33, c33, qs, hqs, rfl, hO33, hb33⟩
      have hU33 : Up w32 w33 := Up.then_ (by go_grown) hb33
      replace hB := hB.up hU33
      replace hP2 := hP2.up hU33
      replace hG2 := hG2.up hU33
      replace hO32 := hO32.up hU33
      replace yhG2 := hG2.two
      replace lhG2 := hG2.lt
      have HQS := Lib.hid hqs
      have hql2 := ((HTR qs).out hqs).1
      rw [hql2] at hO33 ⊢
      clear hqs hql2
      replace yhG2 := hG2.two
      replace lhG2 := hG2.lt
      have hw33 := Up.then_ hw32 hU33
      have HSL := Lib.hid (show ps.map Prod.snd = qs.map Prod.snd by rw [HPS.out, HQS.out])
      have HRW := Lib.hid (((HTR ps).out HPS.out).2)
      clear HTI HTS HTR hU32 hU33 hb32 hb33 hw31 hw32
      go_wp2_with fail
      refine (sameLists_up hO32 hO33 HSL.out HRW.out htl).mono ?_
      rintro e w34 ⟨rfl, hb34⟩
      have hU34 : Up w33 w34 := Up.then_ (by go_grown) hb34
      replace hB := hB.up hU34
      replace hP2 := hP2.up hU34
      replace hG2 := hG2.up hU34
      replace hO32 := hO32.up hU34
      replace hO33 := hO33.up hU34
      replace yhG2 := hG2.two
      replace lhG2 := hG2.lt
      have hw34 := Up.then_ hw33 hU34
      clear HSL HRW HPS HQS hO32 hO33 hb34 hU34 hw33
      go_wp2_with fail
      refine (HT1 _ hP2).mono ?_
      rintro e w35 ⟨rfl, hb35⟩
      have hU35 : Up w34 w35 := Up.then_ (by go_grown) hb35
      replace hB := hB.up hU35
      replace hP2 := hP2.up hU35
      replace hG2 := hG2.up hU35
      replace yhG2 := hG2.two
      replace lhG2 := hG2.lt
      have hw35 := Up.then_ hw34 hU35
      go_wp2_with fail
      refine (HT2 _ hP2).mono ?_
      rintro e w36 ⟨rfl, hb36⟩
      have hU36 : Up w35 w36 := Up.then_ (by go_grown) hb36
      replace hB := hB.up hU36
      replace hP2 := hP2.up hU36
      replace hG2 := hG2.up hU36
      replace yhG2 := hG2.two
      replace lhG2 := hG2.lt
      have hw36 := Up.then_ hw35 hU36
      clear HT1 HT2 hU35 hU36 hb35 hb36 hw34 hw35 hP2 hG2 yhG2 lhG2
      have hlow36 : ∀ ad, B = some ad → ad.block < w36.heap.size := fun ad e => by have := hlow ad e; have := hw36.size; omega
      go_wp2_with fail
      refine (drawFindTriple_any B n c bs _ hB hs hlow36).mono ?_
      rintro e w40 ⟨N3, P3, m3, d3, X3, rfl, hP3, hle3, hb40⟩
      have hU40 : Up w36 w40 := Up.then_ (by go_grown) hb40
      replace hB := hB.up hU40
      have hw40 := Up.then_ hw36 hU40
      have hm3 : m3 ≤ 7 := by rw [← hP3.len]; exact le6L_len hle3
      replace hP3 := hP3.ri
      clear hle3
      have hU41 : Up w40 (w40.alloc (.cells #[.int .i64 N3, .slice P3 m3 d3] 26)) := by go_grown
      have hG3 := Blk.new w40 26 #[.int .i64 N3, .slice P3 m3 d3]
      have hw41 := Up.then_ hw40 hU41
      replace hP3 := hP3.up hU41
      replace hB := hB.up hU41
      obtain ⟨g41, hg41⟩ : ∃ g41, g41 = w40.heap.size := ⟨_, rfl⟩
      rw [← hg41] at hG3
      go_wp2_with fail
      rw [← hg41]
      generalize w40.alloc (.cells #[.int .i64 N3, .slice P3 m3 d3] 26) = w41 at hG3 hP3 hB hw41 ⊢
      clear hg41 hU41
      have yhG3 := hG3.two
      have lhG3 := hG3.lt
      clear hU40 hb40 hw40 hw36
      obtain ⟨ft, hft⟩ : ∃ ft, ft = optL (tripOf N3 X3) := ⟨_, rfl⟩
      obtain ⟨fb, hfb⟩ : ∃ fb, fb = (tripOf N3 X3).isSome := ⟨_, rfl⟩
      have hftl : ft.length ≤ 7 := by rw [hft]; exact trip_len7 N3 X3
      have HFI : ∀ w', RI w' P3 m3 X3 → Calls Tryz.prog 47 #[.agg #[.int .i64 N3, .slice P3 m3 d3]] w' (GivesIB ft fb w') := fun w' h => by rw [hft, hfb]; exact implFindTriple_any N3 P3 m3 d3 X3 w' h (by omega)
      have HFS : ∀ w', RI w' P3 m3 X3 → Calls Tryz.prog 48 #[.agg #[.int .i64 N3, .slice P3 m3 d3]] w' (GivesIB ft fb w') := fun w' h => by rw [hft, hfb]; exact specFindTriple_any N3 P3 m3 d3 X3 w' h (by omega)
      clear hft hfb
      go_wp2_with fail
      refine (HFI _ hP3).mono ?_
      rintro e w42 ⟨A42, c42, rfl, hO42, hb42⟩
      have hU42 : Up w41 w42 := Up.then_ (by go_grown) hb42
      replace hB := hB.up hU42
      replace hP3 := hP3.up hU42
      replace hG3 := hG3.up hU42
      replace yhG3 := hG3.two
      replace lhG3 := hG3.lt
      have hw42 := Up.then_ hw41 hU42
      replace hO42 := hO42.ri
      replace yhG3 := hG3.two
      replace lhG3 := hG3.lt
      go_wp2_with fail
      refine (HFS _ hP3).mono ?_
      rintro e w43 ⟨A43, c43, rfl, hO43, hb43⟩
      have hU43 : Up w42 w43 := Up.then_ (by go_grown) hb43
      replace hB := hB.up hU43
      replace hP3 := hP3.up hU43
      replace hG3 := hG3.up hU43
      replace hO42 := hO42.up hU43
      replace yhG3 := hG3.two
      replace lhG3 := hG3.lt
      have hw43 := Up.then_ hw42 hU43
      replace hO43 := hO43.ri
      replace yhG3 := hG3.two
      replace lhG3 := hG3.lt
      clear HFI HFS hU42 hU43 hb42 hb43 hw41 hw42 hP3 hG3 yhG3 lhG3
      have hlow43 : ∀ ad, B = some ad → ad.block < w43.heap.size := fun ad e => by have := hlow ad e; have := hw43.size; omega
      go_wp2_with fail
      refine (drawIsCliqueOrder_any B n c bs _ hB hs hlow43).mono ?_
      rintro e w44 ⟨N5, P5, m5, d5, X5, L5, e5, xs5, rfl, hP5, hle5, hL5, hl5, hb44⟩
      have hU44 : Up w43 w44 := Up.then_ (by go_grown) hb44
      replace hB := hB.up hU44
      replace hO42 := hO42.up hU44
      replace hO43 := hO43.up hU44
      have hw44 := Up.then_ hw43 hU44
      have hm5 : m5 ≤ 6 := by rw [← hP5.len]; exact hle5
      replace hP5 := hP5.ri
      replace hL5 := hL5.ri
      clear hle5
      have hU45 : Up w44 (w44.alloc (.cells #[.int .i64 N5, .slice P5 m5 d5] 26)) := by go_grown
      have hG5 := Blk.new w44 26 #[.int .i64 N5, .slice P5 m5 d5]
      have hw45 := Up.then_ hw44 hU45
      replace hO42 := hO42.up hU45
      replace hO43 := hO43.up hU45
      replace hP5 := hP5.up hU45
      replace hL5 := hL5.up hU45
      replace hB := hB.up hU45
      obtain ⟨g45, hg45⟩ : ∃ g45, g45 = w44.heap.size := ⟨_, rfl⟩
      rw [← hg45] at hG5
      go_wp2_with fail
      rw [← hg45]
      generalize w44.alloc (.cells #[.int .i64 N5, .slice P5 m5 d5] 26) = w45 at hG5 hO42 hO43 hP5 hL5 hB hw45 ⊢
      have hlow45 : ∀ ad, B = some ad → ad.block < w45.heap.size := fun ad e => by have := hlow ad e; have := hw45.size; omega
      clear hg45 hU45
      clear hU44 hb44 hw44 hw43 hlow43
      refine (drawModelOfOrder_any B n c bs _ hB hs hlow45).mono ?_
      rintro e w46 ⟨L6, e6, xs6, z6, rfl, hL6, hl6, hb46⟩
      have hU46 : Up w45 w46 := hb46
      replace hB := hB.up hU46
      replace hO42 := hO42.up hU46
      replace hO43 := hO43.up hU46
      replace hP5 := hP5.up hU46
      replace hL5 := hL5.up hU46
      replace hG5 := hG5.up hU46
      have hw46 := Up.then_ hw45 hU46
      replace hL6 := hL6.ri
      clear hU46 hb46 hw45 hlow45
      obtain ⟨ma, hma⟩ : ∃ ma, ma = moL xs6 z6 := ⟨_, rfl⟩
      obtain ⟨mb, hmb⟩ : ∃ mb, mb = moR xs6 z6 := ⟨_, rfl⟩
      obtain ⟨mh, hmh⟩ : ∃ mh, mh = hasMo xs6 z6 := ⟨_, rfl⟩
      have hmal : ma.length ≤ 7 ∧ mb.length ≤ 7 := by rw [hma, hmb]; have := moL_len xs6 z6; exact ⟨this.1, this.2.1⟩
      have HOI : ∀ w', RI w' L6 xs6.length xs6 → Calls Tryz.prog 51 #[.slice L6 xs6.length e6, .int .i64 z6] w' (GivesTB ma mb mh w') := fun w' h => by rw [hma, hmb, hmh]; exact implModelOfOrder_any L6 xs6.length e6 xs6 z6 w' h (by omega)
      have HOS : ∀ w', RI w' L6 xs6.length xs6 → Calls Tryz.prog 52 #[.slice L6 xs6.length e6, .int .i64 z6] w' (GivesTB ma mb mh w') := fun w' h => by rw [hma, hmb, hmh]; exact specModelOfOrder_any L6 xs6.length e6 xs6 z6 w' h (by omega)
      obtain ⟨hma1, hma2⟩ := hmal
      clear hma hmb hmh
      go_wp2_with fail
      refine (HOI _ hL6).mono ?_
      rintro e w47 ⟨A47, c47, C47, d47, rfl, hP47, hQ47, hap47, hb47⟩
      have hU47 : Up w46 w47 := Up.then_ (by go_grown) hb47
      replace hB := hB.up hU47
      replace hO42 := hO42.up hU47
      replace hO43 := hO43.up hU47
      replace hP5 := hP5.up hU47
      replace hL5 := hL5.up hU47
      replace hG5 := hG5.up hU47
      replace hL6 := hL6.up hU47
      have hw47 := Up.then_ hw46 hU47
      replace hP47 := hP47.ri
      replace hQ47 := hQ47.ri
      clear hap47
      have hU48 : Up w47 (w47.alloc (.cells #[.slice A47 ma.length c47, .slice C47 mb.length d47] 31)) := by go_grown
      have hG48 := Blk.new w47 31 #[.slice A47 ma.length c47, .slice C47 mb.length d47]
      have hw48 := Up.then_ hw47 hU48
      replace hO42 := hO42.up hU48
      replace hO43 := hO43.up hU48
      replace hP5 := hP5.up hU48
      replace hL5 := hL5.up hU48
      replace hG5 := hG5.up hU48
      replace hL6 := hL6.up hU48
      replace hP47 := hP47.up hU48
      replace hQ47 := hQ47.up hU48
      replace hB := hB.up hU48
      obtain ⟨g48, hg48⟩ : ∃ g48, g48 = w47.heap.size := ⟨_, rfl⟩
      rw [← hg48] at hG48
      go_wp2_with fail
      rw [← hg48]
      generalize w47.alloc (.cells #[.slice A47 ma.length c47, .slice C47 mb.length d47] 31) = w48 at hG48 hO42 hO43 hP5 hL5 hG5 hL6 hP47 hQ47 hB hw48 ⊢
      clear hg48 hU48
      clear hU47 hb47 hw46 hw47
      go_wp2_with fail
      refine (HOS _ hL6).mono ?_
      rintro e w49 ⟨A49, c49, C49, d49, rfl, hP49, hQ49, hap49, hb49⟩
      have hU49 : Up w48 w49 := Up.then_ (by go_grown) hb49
      replace hB := hB.up hU49
      replace hO42 := hO42.up hU49
      replace hO43 := hO43.up hU49
      replace hP5 := hP5.up hU49
      replace hL5 := hL5.up hU49
      replace hG5 := hG5.up hU49
      replace hL6 := hL6.up hU49
      replace hP47 := hP47.up hU49
      replace hQ47 := hQ47.up hU49
      replace hG48 := hG48.up hU49
      have hw49 := Up.then_ hw48 hU49
      replace hP49 := hP49.ri
      replace hQ49 := hQ49.ri
      clear hap49 hL6
      have hU50 : Up w49 (w49.alloc (.cells #[.slice A49 ma.length c49, .slice C49 mb.length d49] 31)) := by go_grown
      have hG50 := Blk.new w49 31 #[.slice A49 ma.length c49, .slice C49 mb.length d49]
      have hw50 := Up.then_ hw49 hU50
      replace hO42 := hO42.up hU50
      replace hO43 := hO43.up hU50
      replace hP5 := hP5.up hU50
      replace hL5 := hL5.up hU50
      replace hG5 := hG5.up hU50
      replace hP47 := hP47.up hU50
      replace hQ47 := hQ47.up hU50
      replace hG48 := hG48.up hU50
      replace hP49 := hP49.up hU50
      replace hQ49 := hQ49.up hU50
      replace hB := hB.up hU50
      obtain ⟨g50, hg50⟩ : ∃ g50, g50 = w49.heap.size := ⟨_, rfl⟩
      rw [← hg50] at hG50
      go_wp2_with fail
      rw [← hg50]
      generalize w49.alloc (.cells #[.slice A49 ma.length c49, .slice C49 mb.length d49] 31) = w50 at hG50 hO42 hO43 hP5 hL5 hG5 hP47 hQ47 hG48 hP49 hQ49 hB hw50 ⊢
      have hlow50 : ∀ ad, B = some ad → ad.block < w50.heap.size := fun ad e => by have := hlow ad e; have := hw50.size; omega
      clear hg50 hU50
      clear hU49 hb49 hw48 hw49 HOI HOS
      refine (drawIsModelOf_any B n c bs _ hB hs hlow50).mono ?_
      rintro e w51 ⟨N7, P7, m7, d7, X7, K7, np, cp, J7, nq, cq, L7, R7, rfl, hP7, hle7, hK7, hJ7, hnp, hnq, hb51⟩
      have hU51 : Up w50 w51 := hb51
      replace hB := hB.up hU51
      replace hO42 := hO42.up hU51
      replace hO43 := hO43.up hU51
      replace hP5 := hP5.up hU51
      replace hL5 := hL5.up hU51
      replace hG5 := hG5.up hU51
      replace hP47 := hP47.up hU51
      replace hQ47 := hQ47.up hU51
      replace hG48 := hG48.up hU51
      replace hP49 := hP49.up hU51
      replace hQ49 := hQ49.up hU51
      replace hG50 := hG50.up hU51
      have hw51 := Up.then_ hw50 hU51
      have hm7 : m7 ≤ 6 := by rw [← hP7.len]; exact hle7
      replace hP7 := hP7.ri
      clear hle7 hlow50 hU51 hb51 hw50
      have hU52 : Up w51 ((w51.alloc (.cells #[.int .i64 N7, .slice P7 m7 d7] 26)).alloc (.cells #[.slice K7 np cp, .slice J7 nq cq] 31)) := by go_grown
      have hG7 := (Blk.new w51 26 #[.int .i64 N7, .slice P7 m7 d7]).alloc (.cells #[.slice K7 np cp, .slice J7 nq cq] 31)
      have hG8 : Blk ((w51.alloc (.cells #[.int .i64 N7, .slice P7 m7 d7] 26)).alloc (.cells #[.slice K7 np cp, .slice J7 nq cq] 31)) (w51.heap.size + 1) 31 #[.slice K7 np cp, .slice J7 nq cq] := Blk.new_at (by simp)
      have hw52 := Up.then_ hw51 hU52
      replace hO42 := hO42.up hU52
      replace hO43 := hO43.up hU52
      replace hP5 := hP5.up hU52
      replace hL5 := hL5.up hU52
      replace hG5 := hG5.up hU52
      replace hP47 := hP47.up hU52
      replace hQ47 := hQ47.up hU52
      replace hG48 := hG48.up hU52
      replace hP49 := hP49.up hU52
      replace hQ49 := hQ49.up hU52
      replace hG50 := hG50.up hU52
      replace hP7 := hP7.up hU52
      replace hK7 := hK7.up hU52
      replace hJ7 := hJ7.up hU52
      replace hB := hB.up hU52
      obtain ⟨g52, hg52⟩ : ∃ g52, g52 = w51.heap.size + 1 := ⟨_, rfl⟩
      obtain ⟨g51, hg51⟩ : ∃ g51, g51 = w51.heap.size := ⟨_, rfl⟩
      rw [← hg52] at hG8
      rw [← hg51] at hG7
      go_wp2_with fail
      rw [← hg52]
      rw [← hg51]
      generalize (w51.alloc (.cells #[.int .i64 N7, .slice P7 m7 d7] 26)).alloc (.cells #[.slice K7 np cp, .slice J7 nq cq] 31) = w52 at hG7 hG8 hO42 hO43 hP5 hL5 hG5 hP47 hQ47 hG48 hP49 hQ49 hG50 hP7 hK7 hJ7 hB hw52 ⊢
      have hlow52 : ∀ ad, B = some ad → ad.block < w52.heap.size := fun ad e => by have := hlow ad e; have := hw52.size; omega
      clear hg51 hg52 hU52 hw51
      refine (drawIsIntervalObstacle_any B n c bs _ hB hs hlow52).mono ?_
      rintro e w53 ⟨N9, P9, m9, d9, X9, L9, e9, xs9, rfl, hP9, hle9, hL9, hl9, hb53⟩
      have hU53 : Up w52 w53 := hb53
      replace hO42 := hO42.up hU53
      replace hO43 := hO43.up hU53
      replace hP5 := hP5.up hU53
      replace hL5 := hL5.up hU53
      replace hG5 := hG5.up hU53
      replace hP47 := hP47.up hU53
      replace hQ47 := hQ47.up hU53
      replace hG48 := hG48.up hU53
      replace hP49 := hP49.up hU53
      replace hQ49 := hQ49.up hU53
      replace hG50 := hG50.up hU53
      replace hP7 := hP7.up hU53
      replace hK7 := hK7.up hU53
      replace hJ7 := hJ7.up hU53
      replace hB := hB.up hU53
      replace hG7 := hG7.up hU53
      replace hG8 := hG8.up hU53
      have hw53 := Up.then_ hw52 hU53
      have hm9 : m9 ≤ 7 := by rw [← hP9.len]; exact le6L_len hle9
      have hcap9 := hL9.cap
      replace hP9 := hP9.ri
      replace hL9 := hL9.ri
      clear hle9 hlow52 hU53 hb53 hw52
      have hU54 : Up w53 (w53.alloc (.cells #[.int .i64 N9, .slice P9 m9 d9] 26)) := by go_grown
      have hG9 := Blk.new w53 26 #[.int .i64 N9, .slice P9 m9 d9]
      have hw54 := Up.then_ hw53 hU54
      replace hO42 := hO42.up hU54
      replace hO43 := hO43.up hU54
      replace hP5 := hP5.up hU54
      replace hL5 := hL5.up hU54
      replace hG5 := hG5.up hU54
      replace hP47 := hP47.up hU54
      replace hQ47 := hQ47.up hU54
      replace hG48 := hG48.up hU54
      replace hP49 := hP49.up hU54
      replace hQ49 := hQ49.up hU54
      replace hG50 := hG50.up hU54
      replace hP7 := hP7.up hU54
      replace hK7 := hK7.up hU54
      replace hJ7 := hJ7.up hU54
      replace hB := hB.up hU54
      replace hG7 := hG7.up hU54
      replace hG8 := hG8.up hU54
      replace hP9 := hP9.up hU54
      replace hL9 := hL9.up hU54
      obtain ⟨g54, hg54⟩ : ∃ g54, g54 = w53.heap.size := ⟨_, rfl⟩
      rw [← hg54] at hG9
      go_wp2_with fail
      rw [← hg54]
      generalize w53.alloc (.cells #[.int .i64 N9, .slice P9 m9 d9] 26) = w54 at hG9 hO42 hO43 hP5 hL5 hG5 hP47 hQ47 hG48 hP49 hQ49 hG50 hP7 hK7 hJ7 hB hG7 hG8 hP9 hL9 hw54 ⊢
      have hlow54 : ∀ ad, B = some ad → ad.block < w54.heap.size := fun ad e => by have := hlow ad e; have := hw54.size; omega
      clear hg54 hU54
      clear hw53
      refine (drawAvoidingPath_any B n c bs _ hB hs hlow54).mono ?_
      rintro e w55 ⟨Na, Pa, ma', da, Xa, va, vb, vc, rfl, hPa, hlea, hb55⟩
      have hU55 : Up w54 w55 := hb55
      replace hO42 := hO42.up hU55
      replace hO43 := hO43.up hU55
      replace hP5 := hP5.up hU55
      replace hL5 := hL5.up hU55
      replace hG5 := hG5.up hU55
      replace hP47 := hP47.up hU55
      replace hQ47 := hQ47.up hU55
      replace hG48 := hG48.up hU55
      replace hP49 := hP49.up hU55
      replace hQ49 := hQ49.up hU55
      replace hG50 := hG50.up hU55
      replace hP7 := hP7.up hU55
      replace hK7 := hK7.up hU55
      replace hJ7 := hJ7.up hU55
      replace hB := hB.up hU55
      replace hG7 := hG7.up hU55
      replace hG8 := hG8.up hU55
      replace hP9 := hP9.up hU55
      replace hL9 := hL9.up hU55
      replace hG9 := hG9.up hU55
      have hw55 := Up.then_ hw54 hU55
      have hma : ma' ≤ 7 := by rw [← hPa.len]; exact le6L_len hlea
      replace hPa := hPa.ri
      clear hlea hlow54 hU55 hb55 hw54 hB
      have hU56 : Up w55 (w55.alloc (.cells #[.int .i64 Na, .slice Pa ma' da] 26)) := by go_grown
      have hGa := Blk.new w55 26 #[.int .i64 Na, .slice Pa ma' da]
      have hw56 := Up.then_ hw55 hU56
      replace hO42 := hO42.up hU56
      replace hO43 := hO43.up hU56
      replace hP5 := hP5.up hU56
      replace hL5 := hL5.up hU56
      replace hG5 := hG5.up hU56
      replace hP47 := hP47.up hU56
      replace hQ47 := hQ47.up hU56
      replace hG48 := hG48.up hU56
      replace hP49 := hP49.up hU56
      replace hQ49 := hQ49.up hU56
      replace hG50 := hG50.up hU56
      replace hP7 := hP7.up hU56
      replace hK7 := hK7.up hU56
      replace hJ7 := hJ7.up hU56
      replace hG7 := hG7.up hU56
      replace hG8 := hG8.up hU56
      replace hP9 := hP9.up hU56
      replace hL9 := hL9.up hU56
      replace hG9 := hG9.up hU56
      replace hPa := hPa.up hU56
      obtain ⟨g56, hg56⟩ : ∃ g56, g56 = w55.heap.size := ⟨_, rfl⟩
      rw [← hg56] at hGa
      go_wp2_with fail
      rw [← hg56]
      generalize w55.alloc (.cells #[.int .i64 Na, .slice Pa ma' da] 26) = w56 at hGa hO42 hO43 hP5 hL5 hG5 hP47 hQ47 hG48 hP49 hQ49 hG50 hP7 hK7 hJ7 hG7 hG8 hP9 hL9 hG9 hPa hw56 ⊢
      clear hg56 hU56
      have yhGa := hGa.two
      have lhGa := hGa.lt
      clear hw55
      obtain ⟨av, hav⟩ : ∃ av, av = optL (avoidOf Na Xa va vb vc) := ⟨_, rfl⟩
      obtain ⟨ab, hab⟩ : ∃ ab, ab = (avoidOf Na Xa va vb vc).isSome := ⟨_, rfl⟩
      have havl : av.length ≤ 128 := by rw [hav]; exact avoid_len Na Xa va vb vc
      have HAI : ∀ w', RI w' Pa ma' Xa → Calls Tryz.prog 56 #[.agg #[.int .i64 Na, .slice Pa ma' da], .int .i64 va, .int .i64 vb, .int .i64 vc] w' (GivesIB av ab w') := fun w' h => by rw [hav, hab]; exact implAvoidingPath_any Na va vb vc Pa ma' da Xa w' h (by omega)
      have HAS : ∀ w', RI w' Pa ma' Xa → Calls Tryz.prog 57 #[.agg #[.int .i64 Na, .slice Pa ma' da], .int .i64 va, .int .i64 vb, .int .i64 vc] w' (GivesIB av ab w') := fun w' h => by rw [hav, hab]; exact specAvoidingPath_any Na va vb vc Pa ma' da Xa w' h (by omega)
      clear hav hab
      go_wp2_with fail
      refine (HAI _ hPa).mono ?_
      rintro e w57 ⟨A57, c57, rfl, hO57, hb57⟩
      have hU57 : Up w56 w57 := Up.then_ (by go_grown) hb57
      replace hO42 := hO42.up hU57
      replace hO43 := hO43.up hU57
      replace hP5 := hP5.up hU57
      replace hL5 := hL5.up hU57
      replace hG5 := hG5.up hU57
      replace hP47 := hP47.up hU57
      replace hQ47 := hQ47.up hU57
      replace hG48 := hG48.up hU57
      replace hP49 := hP49.up hU57
      replace hQ49 := hQ49.up hU57
      replace hG50 := hG50.up hU57
      replace hP7 := hP7.up hU57
      replace hK7 := hK7.up hU57
      replace hJ7 := hJ7.up hU57
      replace hG7 := hG7.up hU57
      replace hG8 := hG8.up hU57
      replace hP9 := hP9.up hU57
      replace hL9 := hL9.up hU57
      replace hG9 := hG9.up hU57
      replace hPa := hPa.up hU57
      replace hGa := hGa.up hU57
      replace yhGa := hGa.two
      replace lhGa := hGa.lt
      have hw57 := Up.then_ hw56 hU57
      replace hO57 := hO57.ri
      replace yhGa := hGa.two
      replace lhGa := hGa.lt
      go_wp2_with fail
      refine (HAS _ hPa).mono ?_
      rintro e w58 ⟨A58, c58, rfl, hO58, hb58⟩
      have hU58 : Up w57 w58 := Up.then_ (by go_grown) hb58
      replace hO42 := hO42.up hU58
      replace hO43 := hO43.up hU58
      replace hP5 := hP5.up hU58
      replace hL5 := hL5.up hU58
      replace hG5 := hG5.up hU58
      replace hP47 := hP47.up hU58
      replace hQ47 := hQ47.up hU58
      replace hG48 := hG48.up hU58
      replace hP49 := hP49.up hU58
      replace hQ49 := hQ49.up hU58
      replace hG50 := hG50.up hU58
      replace hP7 := hP7.up hU58
      replace hK7 := hK7.up hU58
      replace hJ7 := hJ7.up hU58
      replace hG7 := hG7.up hU58
      replace hG8 := hG8.up hU58
      replace hP9 := hP9.up hU58
      replace hL9 := hL9.up hU58
      replace hG9 := hG9.up hU58
      replace hPa := hPa.up hU58
      replace hGa := hGa.up hU58
      replace hO57 := hO57.up hU58
      replace yhGa := hGa.two
      replace lhGa := hGa.lt
      have hw58 := Up.then_ hw57 hU58
      replace hO58 := hO58.ri
      clear HAI HAS hU57 hU58 hb57 hb58 hw56 hw57 hPa hGa yhGa lhGa
      have yhG5 := hG5.two
      have lhG5 := hG5.lt
      have yhG48 := hG48.two
      have lhG48 := hG48.lt
      have yhG50 := hG50.two
      have lhG50 := hG50.lt
      have yhG7 := hG7.two
      have lhG7 := hG7.lt
      have yhG8 := hG8.two
      have lhG8 := hG8.lt
      have yhG9 := hG9.two
      have lhG9 := hG9.lt
      go_wp2_with fail
      have hV0 : Up w58 w58.drew := (Up.refl _).drew
      refine wp_region_held_drew (S := (fun w' => Up w58 w' ∧ (∀ b o, b < w58.heap.size → w'.cell? ⟨b, o, none⟩ = w58.cell? ⟨b, o, none⟩))) (by kernel_rfl) (by exact ⟨hV0, fun _ _ hb => hV0.cell hb⟩) (fun hHeld => ?_)
      refine wpAnyH_take (i := 0) (v := ?_) rfl (by kernel_rfl) (by kernel_rfl) (by kernel_rfl) (fun _ _ _ h => h) (Or.inl ⟨by rfl, ?_⟩) (by assumption) ?_
      rotate_left
      · (intro w' hSw; go_simp; try with_reducible rfl)
      (try simp only [List.getElem_toArray]); (try simp only [List.getElem_cons_succ]); (try simp only [List.getElem_cons_zero]); (try simp only [Act.put]); (try simp only [List.setIfInBounds_toArray]); (try simp only [List.set_cons_succ]); (try simp only [List.set_cons_zero])
      refine wpAnyH_take (i := 1) (v := ?_) rfl (by kernel_rfl) (by kernel_rfl) (by kernel_rfl) (fun _ _ _ h => h) (Or.inl ⟨by rfl, ?_⟩) (by assumption) ?_
      rotate_left
      · (intro w' hSw; go_simp; try with_reducible rfl)
      (try simp only [List.getElem_toArray]); (try simp only [List.getElem_cons_succ]); (try simp only [List.getElem_cons_zero]); (try simp only [Act.put]); (try simp only [List.setIfInBounds_toArray]); (try simp only [List.set_cons_succ]); (try simp only [List.set_cons_zero])
      refine wpAnyH_take (i := 2) (v := ?_) rfl (by kernel_rfl) (by kernel_rfl) (by kernel_rfl) (fun _ _ _ h => h) (Or.inl ⟨by rfl, ?_⟩) (by assumption) ?_
      rotate_left
      · (intro w' hSw; go_simp; try with_reducible rfl)
      (try simp only [List.getElem_toArray]); (try simp only [List.getElem_cons_succ]); (try simp only [List.getElem_cons_zero]); (try simp only [Act.put]); (try simp only [List.setIfInBounds_toArray]); (try simp only [List.set_cons_succ]); (try simp only [List.set_cons_zero])
      refine wpAnyH_take (i := 3) (v := ?_) rfl (by kernel_rfl) (by kernel_rfl) (by kernel_rfl) (fun _ _ _ h => h) (Or.inl ⟨by rfl, ?_⟩) (by assumption) ?_
      rotate_left
      · (intro w' hSw; go_simp; try with_reducible rfl)
      (try simp only [List.getElem_toArray]); (try simp only [List.getElem_cons_succ]); (try simp only [List.getElem_cons_zero]); (try simp only [Act.put]); (try simp only [List.setIfInBounds_toArray]); (try simp only [List.set_cons_succ]); (try simp only [List.set_cons_zero])
      refine wpAnyH_take (i := 4) (v := ?_) rfl (by kernel_rfl) (by kernel_rfl) (by kernel_rfl) (fun _ _ _ h => h) (Or.inl ⟨by rfl, ?_⟩) (by assumption) ?_
      rotate_left
      · (intro w' hSw; go_simp; try with_reducible rfl)
      (try simp only [List.getElem_toArray]); (try simp only [List.getElem_cons_succ]); (try simp only [List.getElem_cons_zero]); (try simp only [Act.put]); (try simp only [List.setIfInBounds_toArray]); (try simp only [List.set_cons_succ]); (try simp only [List.set_cons_zero])
      refine wpAnyH_take (i := 5) (v := ?_) rfl (by kernel_rfl) (by kernel_rfl) (by kernel_rfl) (fun _ _ _ h => h) (Or.inl ⟨by rfl, ?_⟩) (by assumption) ?_
      rotate_left
      · (intro w' hSw; go_simp; try with_reducible rfl)
      (try simp only [List.getElem_toArray]); (try simp only [List.getElem_cons_succ]); (try simp only [List.getElem_cons_zero]); (try simp only [Act.put]); (try simp only [List.setIfInBounds_toArray]); (try simp only [List.set_cons_succ]); (try simp only [List.set_cons_zero])
      refine wpAnyH_ready (rs := [6]) (by kernel_rfl) (by simp) ?_
      refine AllReadyH.cons rfl (fun K hK => ?_) AllReadyH.nil
      go_simp
      go_at_call 13
      refine (sameInts_up (hO42.up hV0) (hO43.up hV0) (by omega)).mono ?_
      rintro e w600 ⟨rfl, hb600⟩
      have hV1 := Up.then_ hV0 hb600
      go_wp2_with fail
      refine hK.out _ _ (by exact ⟨hV1, fun _ _ hb => hV1.cell hb⟩) (fun hHeld1 => ?_)
      clear hK K
      (try simp only [List.getElem_toArray]); (try simp only [List.getElem_cons_succ]); (try simp only [List.getElem_cons_zero]); (try simp only [Act.put]); (try simp only [List.setIfInBounds_toArray]); (try simp only [List.set_cons_succ]); (try simp only [List.set_cons_zero])
      refine wpAnyH_take (i := 7) (v := ?_) rfl (by kernel_rfl) (by kernel_rfl) (by kernel_rfl) (fun _ _ _ h => h) (Or.inl ⟨by rfl, ?_⟩) (by assumption) ?_
      rotate_left
      · (intro w' hSw; go_simp; try with_reducible rfl)
      (try simp only [List.getElem_toArray]); (try simp only [List.getElem_cons_succ]); (try simp only [List.getElem_cons_zero]); (try simp only [Act.put]); (try simp only [List.setIfInBounds_toArray]); (try simp only [List.set_cons_succ]); (try simp only [List.set_cons_zero])
      refine wpAnyH_take (i := 8) (v := ?_) rfl (by kernel_rfl) (by kernel_rfl) (by kernel_rfl) (fun _ _ _ h => h) (Or.inl ⟨by rfl, ?_⟩) (by assumption) ?_
      rotate_left
      · (intro w' hSw; go_simp; try with_reducible rfl)
      (try simp only [List.getElem_toArray]); (try simp only [List.getElem_cons_succ]); (try simp only [List.getElem_cons_zero]); (try simp only [Act.put]); (try simp only [List.setIfInBounds_toArray]); (try simp only [List.set_cons_succ]); (try simp only [List.set_cons_zero])
      refine wpAnyH_take (i := 9) (v := ?_) rfl (by kernel_rfl) (by kernel_rfl) (by kernel_rfl) (fun _ _ _ h => h) (Or.inl ⟨by rfl, ?_⟩) (by assumption) ?_
      rotate_left
      · (intro w' hSw; go_simp; try with_reducible rfl)
      (try simp only [List.getElem_toArray]); (try simp only [List.getElem_cons_succ]); (try simp only [List.getElem_cons_zero]); (try simp only [Act.put]); (try simp only [List.setIfInBounds_toArray]); (try simp only [List.set_cons_succ]); (try simp only [List.set_cons_zero])
      refine wpAnyH_take (i := 10) (v := ?_) rfl (by kernel_rfl) (by kernel_rfl) (by kernel_rfl) (fun _ _ _ h => h) (Or.inl ⟨by rfl, ?_⟩) (by assumption) ?_
      rotate_left
      · (intro w' hSw; go_simp; try with_reducible rfl)
      (try simp only [List.getElem_toArray]); (try simp only [List.getElem_cons_succ]); (try simp only [List.getElem_cons_zero]); (try simp only [Act.put]); (try simp only [List.setIfInBounds_toArray]); (try simp only [List.set_cons_succ]); (try simp only [List.set_cons_zero])
      refine wpAnyH_take (i := 12) (v := ?_) rfl (by kernel_rfl) (by kernel_rfl) (by kernel_rfl) (fun _ _ _ h => h) (Or.inl ⟨by rfl, ?_⟩) (by assumption) ?_
      rotate_left
      · (intro w' hSw; go_simp; try with_reducible rfl)
      (try simp only [List.getElem_toArray]); (try simp only [List.getElem_cons_succ]); (try simp only [List.getElem_cons_zero]); (try simp only [Act.put]); (try simp only [List.setIfInBounds_toArray]); (try simp only [List.set_cons_succ]); (try simp only [List.set_cons_zero])
      refine wpAnyH_take (i := 13) (v := ?_) rfl (by kernel_rfl) (by kernel_rfl) (by kernel_rfl) (fun _ _ _ h => h) (Or.inl ⟨by rfl, ?_⟩) (by assumption) ?_
      rotate_left
      · (intro w' hSw; go_simp; try with_reducible rfl)
      (try simp only [List.getElem_toArray]); (try simp only [List.getElem_cons_succ]); (try simp only [List.getElem_cons_zero]); (try simp only [Act.put]); (try simp only [List.setIfInBounds_toArray]); (try simp only [List.set_cons_succ]); (try simp only [List.set_cons_zero])
      refine wpAnyH_ready (rs := [11]) (by kernel_rfl) (by simp) ?_
      refine AllReadyH.cons rfl (fun K hK => ?_) AllReadyH.nil
      go_simp
      go_at_call 35
      refine (implIsCliqueOrder_any N5 P5 L5 m5 d5 xs5.length e5 X5 xs5 _ (hP5.up hV1) (hL5.up hV1) (by omega) (by omega)).mono ?_
      rintro e w601 ⟨rfl, hb601⟩
      have hV2 := Up.then_ hV1 hb601
      go_wp2_with fail
      refine hK.out _ _ (by exact ⟨hV2, fun _ _ hb => hV2.cell hb⟩) (fun hHeld2 => ?_)
      clear hK K
      (try simp only [List.getElem_toArray]); (try simp only [List.getElem_cons_succ]); (try simp only [List.getElem_cons_zero]); (try simp only [Act.put]); (try simp only [List.setIfInBounds_toArray]); (try simp only [List.set_cons_succ]); (try simp only [List.set_cons_zero])
      refine wpAnyH_ready (rs := [14]) (by kernel_rfl) (by simp) ?_
      refine AllReadyH.cons rfl (fun K hK => ?_) AllReadyH.nil
      go_simp
      go_at_call 58
      refine (specIsCliqueOrder_any N5 P5 L5 m5 d5 xs5.length e5 X5 xs5 _ (hP5.up hV2) (hL5.up hV2) (by omega) (by omega)).mono ?_
      rintro e w602 ⟨rfl, hb602⟩
      have hV3 := Up.then_ hV2 hb602
      go_wp2_with fail
      refine hK.out _ _ (by exact ⟨hV3, fun _ _ hb => hV3.cell hb⟩) (fun hHeld3 => ?_)
      clear hK K
      (try simp only [List.getElem_toArray]); (try simp only [List.getElem_cons_succ]); (try simp only [List.getElem_cons_zero]); (try simp only [Act.put]); (try simp only [List.setIfInBounds_toArray]); (try simp only [List.set_cons_succ]); (try simp only [List.set_cons_zero])
      refine wpAnyH_take (i := 15) (v := ?_) rfl (by kernel_rfl) (by kernel_rfl) (by kernel_rfl) (fun _ _ _ h => h) (Or.inl ⟨by rfl, ?_⟩) (by assumption) ?_
      rotate_left
      · (intro w' hSw; go_simp; try with_reducible rfl)
      (try simp only [List.getElem_toArray]); (try simp only [List.getElem_cons_succ]); (try simp only [List.getElem_cons_zero]); (try simp only [Act.put]); (try simp only [List.setIfInBounds_toArray]); (try simp only [List.set_cons_succ]); (try simp only [List.set_cons_zero])
      refine wpAnyH_take (i := 16) (v := ?_) rfl (by kernel_rfl) (by kernel_rfl) (by kernel_rfl) (fun _ _ _ h => h) (Or.inl ⟨by rfl, ?_⟩) (by assumption) ?_
      rotate_left
      · (intro w' hSw; go_simp; try with_reducible rfl)
      (try simp only [List.getElem_toArray]); (try simp only [List.getElem_cons_succ]); (try simp only [List.getElem_cons_zero]); (try simp only [Act.put]); (try simp only [List.setIfInBounds_toArray]); (try simp only [List.set_cons_succ]); (try simp only [List.set_cons_zero])
      refine wpAnyH_take (i := 17) (v := ?_) rfl (by kernel_rfl) (by kernel_rfl) (by kernel_rfl) (fun _ _ _ h => h) (Or.inl ⟨by rfl, ?_⟩) (by assumption) ?_
      rotate_left
      · (intro w' hSw; go_simp; try with_reducible rfl)
      (try simp only [List.getElem_toArray]); (try simp only [List.getElem_cons_succ]); (try simp only [List.getElem_cons_zero]); (try simp only [Act.put]); (try simp only [List.setIfInBounds_toArray]); (try simp only [List.set_cons_succ]); (try simp only [List.set_cons_zero])
      refine wpAnyH_take (i := 18) (v := ?_) rfl (by kernel_rfl) (by kernel_rfl) (by kernel_rfl) (fun _ _ _ h => h) (Or.inl ⟨by rfl, ?_⟩) (by assumption) ?_
      rotate_left
      · (intro w' hSw; go_simp; try with_reducible rfl)
      (try simp only [List.getElem_toArray]); (try simp only [List.getElem_cons_succ]); (try simp only [List.getElem_cons_zero]); (try simp only [Act.put]); (try simp only [List.setIfInBounds_toArray]); (try simp only [List.set_cons_succ]); (try simp only [List.set_cons_zero])
      refine wpAnyH_take (i := 19) (v := ?_) rfl (by kernel_rfl) (by kernel_rfl) (by kernel_rfl) (fun _ _ _ h => h) (Or.inl ⟨by rfl, ?_⟩) (by assumption) ?_
      rotate_left
      · (intro w' hSw; go_simp; try with_reducible rfl)
      (try simp only [List.getElem_toArray]); (try simp only [List.getElem_cons_succ]); (try simp only [List.getElem_cons_zero]); (try simp only [Act.put]); (try simp only [List.setIfInBounds_toArray]); (try simp only [List.set_cons_succ]); (try simp only [List.set_cons_zero])
      refine wpAnyH_take (i := 20) (v := ?_) rfl (by kernel_rfl) (by kernel_rfl) (by kernel_rfl) (fun _ _ _ h => h) (Or.inl ⟨by rfl, ?_⟩) (by assumption) ?_
      rotate_left
      · (intro w' hSw; go_simp; try with_reducible rfl)
      (try simp only [List.getElem_toArray]); (try simp only [List.getElem_cons_succ]); (try simp only [List.getElem_cons_zero]); (try simp only [Act.put]); (try simp only [List.setIfInBounds_toArray]); (try simp only [List.set_cons_succ]); (try simp only [List.set_cons_zero])
      refine wpAnyH_take (i := 21) (v := ?_) rfl (by kernel_rfl) (by kernel_rfl) (by kernel_rfl) (fun _ _ _ h => h) (Or.inl ⟨by rfl, ?_⟩) (by assumption) ?_
      rotate_left
      · (intro w' hSw; go_simp; try with_reducible rfl)
      (try simp only [List.getElem_toArray]); (try simp only [List.getElem_cons_succ]); (try simp only [List.getElem_cons_zero]); (try simp only [Act.put]); (try simp only [List.setIfInBounds_toArray]); (try simp only [List.set_cons_succ]); (try simp only [List.set_cons_zero])
      refine wpAnyH_take (i := 22) (v := ?_) rfl (by kernel_rfl) (by kernel_rfl) (by kernel_rfl) (fun _ _ _ h => h) (Or.inl ⟨by rfl, ?_⟩) (by assumption) ?_
      rotate_left
      · (intro w' hSw; go_simp; try with_reducible rfl)
      (try simp only [List.getElem_toArray]); (try simp only [List.getElem_cons_succ]); (try simp only [List.getElem_cons_zero]); (try simp only [Act.put]); (try simp only [List.setIfInBounds_toArray]); (try simp only [List.set_cons_succ]); (try simp only [List.set_cons_zero])
      refine wpAnyH_take (i := 23) (v := ?_) rfl (by kernel_rfl) (by kernel_rfl) (by kernel_rfl) (fun _ _ _ h => h) (Or.inl ⟨by rfl, ?_⟩) (by assumption) ?_
      rotate_left
      · (intro w' hSw; go_simp; try with_reducible rfl)
      (try simp only [List.getElem_toArray]); (try simp only [List.getElem_cons_succ]); (try simp only [List.getElem_cons_zero]); (try simp only [Act.put]); (try simp only [List.setIfInBounds_toArray]); (try simp only [List.set_cons_succ]); (try simp only [List.set_cons_zero])
      refine wpAnyH_take (i := 24) (v := ?_) rfl (by kernel_rfl) (by kernel_rfl) (by kernel_rfl) (fun _ _ _ h => h) (Or.inl ⟨by rfl, ?_⟩) (by assumption) ?_
      rotate_left
      · (intro w' hSw; go_simp; try with_reducible rfl)
      (try simp only [List.getElem_toArray]); (try simp only [List.getElem_cons_succ]); (try simp only [List.getElem_cons_zero]); (try simp only [Act.put]); (try simp only [List.setIfInBounds_toArray]); (try simp only [List.set_cons_succ]); (try simp only [List.set_cons_zero])
      refine wpAnyH_ready (rs := [25]) (by kernel_rfl) (by simp) ?_
      refine AllReadyH.cons rfl (fun K hK => ?_) AllReadyH.nil
      go_simp
      go_at_call 14
      refine (sameModel_up (hP47.up hV3) (hQ47.up hV3) (hP49.up hV3) (hQ49.up hV3) (by omega) (by omega)).mono ?_
      rintro e w603 ⟨rfl, hb603⟩
      have hV4 := Up.then_ hV3 hb603
      go_wp2_with fail
      refine hK.out _ _ (by exact ⟨hV4, fun _ _ hb => hV4.cell hb⟩) (fun hHeld4 => ?_)
      clear hK K
      (try simp only [List.getElem_toArray]); (try simp only [List.getElem_cons_succ]); (try simp only [List.getElem_cons_zero]); (try simp only [Act.put]); (try simp only [List.setIfInBounds_toArray]); (try simp only [List.set_cons_succ]); (try simp only [List.set_cons_zero])
      refine wpAnyH_take (i := 26) (v := ?_) rfl (by kernel_rfl) (by kernel_rfl) (by kernel_rfl) (fun _ _ _ h => h) (Or.inl ⟨by rfl, ?_⟩) (by assumption) ?_
      rotate_left
      · (intro w' hSw; go_simp; try with_reducible rfl)
      (try simp only [List.getElem_toArray]); (try simp only [List.getElem_cons_succ]); (try simp only [List.getElem_cons_zero]); (try simp only [Act.put]); (try simp only [List.setIfInBounds_toArray]); (try simp only [List.set_cons_succ]); (try simp only [List.set_cons_zero])
      refine wpAnyH_take (i := 27) (v := ?_) rfl (by kernel_rfl) (by kernel_rfl) (by kernel_rfl) (fun _ _ _ h => h) (Or.inl ⟨by rfl, ?_⟩) (by assumption) ?_
      rotate_left
      · (intro w' hSw; go_simp; try with_reducible rfl)
      (try simp only [List.getElem_toArray]); (try simp only [List.getElem_cons_succ]); (try simp only [List.getElem_cons_zero]); (try simp only [Act.put]); (try simp only [List.setIfInBounds_toArray]); (try simp only [List.set_cons_succ]); (try simp only [List.set_cons_zero])
      refine wpAnyH_take (i := 28) (v := ?_) rfl (by kernel_rfl) (by kernel_rfl) (by kernel_rfl) (fun _ _ _ h => h) (Or.inl ⟨by rfl, ?_⟩) (by assumption) ?_
      rotate_left
      · (intro w' hSw; go_simp; try with_reducible rfl)
      (try simp only [List.getElem_toArray]); (try simp only [List.getElem_cons_succ]); (try simp only [List.getElem_cons_zero]); (try simp only [Act.put]); (try simp only [List.setIfInBounds_toArray]); (try simp only [List.set_cons_succ]); (try simp only [List.set_cons_zero])
      refine wpAnyH_take (i := 29) (v := ?_) rfl (by kernel_rfl) (by kernel_rfl) (by kernel_rfl) (fun _ _ _ h => h) (Or.inl ⟨by rfl, ?_⟩) (by assumption) ?_
      rotate_left
      · (intro w' hSw; go_simp; try with_reducible rfl)
      (try simp only [List.getElem_toArray]); (try simp only [List.getElem_cons_succ]); (try simp only [List.getElem_cons_zero]); (try simp only [Act.put]); (try simp only [List.setIfInBounds_toArray]); (try simp only [List.set_cons_succ]); (try simp only [List.set_cons_zero])
      refine wpAnyH_take (i := 31) (v := ?_) rfl (by kernel_rfl) (by kernel_rfl) (by kernel_rfl) (fun _ _ _ h => h) (Or.inl ⟨by rfl, ?_⟩) (by assumption) ?_
      rotate_left
      · (intro w' hSw; go_simp; try with_reducible rfl)
      (try simp only [List.getElem_toArray]); (try simp only [List.getElem_cons_succ]); (try simp only [List.getElem_cons_zero]); (try simp only [Act.put]); (try simp only [List.setIfInBounds_toArray]); (try simp only [List.set_cons_succ]); (try simp only [List.set_cons_zero])
      refine wpAnyH_take (i := 32) (v := ?_) rfl (by kernel_rfl) (by kernel_rfl) (by kernel_rfl) (fun _ _ _ h => h) (Or.inl ⟨by rfl, ?_⟩) (by assumption) ?_
      rotate_left
      · (intro w' hSw; go_simp; try with_reducible rfl)
      (try simp only [List.getElem_toArray]); (try simp only [List.getElem_cons_succ]); (try simp only [List.getElem_cons_zero]); (try simp only [Act.put]); (try simp only [List.setIfInBounds_toArray]); (try simp only [List.set_cons_succ]); (try simp only [List.set_cons_zero])
      refine wpAnyH_ready (rs := [30]) (by kernel_rfl) (by simp) ?_
      refine AllReadyH.cons rfl (fun K hK => ?_) AllReadyH.nil
      go_simp
      go_at_call 20
      refine (implIsModelOf_any N7 P7 m7 d7 X7 K7 J7 np nq cp cq L7 R7 _ (hP7.up hV4) (hK7.up hV4) (hJ7.up hV4) (by omega) (by omega)).mono ?_
      rintro e w604 ⟨rfl, hb604⟩
      have hV5 := Up.then_ hV4 hb604
      go_wp2_with fail
      refine hK.out _ _ (by exact ⟨hV5, fun _ _ hb => hV5.cell hb⟩) (fun hHeld5 => ?_)
      clear hK K
      (try simp only [List.getElem_toArray]); (try simp only [List.getElem_cons_succ]); (try simp only [List.getElem_cons_zero]); (try simp only [Act.put]); (try simp only [List.setIfInBounds_toArray]); (try simp only [List.set_cons_succ]); (try simp only [List.set_cons_zero])
      refine wpAnyH_ready (rs := [33]) (by kernel_rfl) (by simp) ?_
      refine AllReadyH.cons rfl (fun K hK => ?_) AllReadyH.nil
      go_simp
      go_at_call 59
      refine (specIsModelOf_any N7 P7 m7 d7 X7 K7 J7 np nq cp cq L7 R7 _ (hP7.up hV5) (hK7.up hV5) (hJ7.up hV5) (by omega) (by omega)).mono ?_
      rintro e w605 ⟨rfl, hb605⟩
      have hV6 := Up.then_ hV5 hb605
      go_wp2_with fail
      refine hK.out _ _ (by exact ⟨hV6, fun _ _ hb => hV6.cell hb⟩) (fun hHeld6 => ?_)
      clear hK K
      (try simp only [List.getElem_toArray]); (try simp only [List.getElem_cons_succ]); (try simp only [List.getElem_cons_zero]); (try simp only [Act.put]); (try simp only [List.setIfInBounds_toArray]); (try simp only [List.set_cons_succ]); (try simp only [List.set_cons_zero])
      refine wpAnyH_take (i := 34) (v := ?_) rfl (by kernel_rfl) (by kernel_rfl) (by kernel_rfl) (fun _ _ _ h => h) (Or.inl ⟨by rfl, ?_⟩) (by assumption) ?_
      rotate_left
      · (intro w' hSw; go_simp; try with_reducible rfl)
      (try simp only [List.getElem_toArray]); (try simp only [List.getElem_cons_succ]); (try simp only [List.getElem_cons_zero]); (try simp only [Act.put]); (try simp only [List.setIfInBounds_toArray]); (try simp only [List.set_cons_succ]); (try simp only [List.set_cons_zero])
      refine wpAnyH_take (i := 35) (v := ?_) rfl (by kernel_rfl) (by kernel_rfl) (by kernel_rfl) (fun _ _ _ h => h) (Or.inl ⟨by rfl, ?_⟩) (by assumption) ?_
      rotate_left
      · (intro w' hSw; go_simp; try with_reducible rfl)
      (try simp only [List.getElem_toArray]); (try simp only [List.getElem_cons_succ]); (try simp only [List.getElem_cons_zero]); (try simp only [Act.put]); (try simp only [List.setIfInBounds_toArray]); (try simp only [List.set_cons_succ]); (try simp only [List.set_cons_zero])
      refine wpAnyH_take (i := 36) (v := ?_) rfl (by kernel_rfl) (by kernel_rfl) (by kernel_rfl) (fun _ _ _ h => h) (Or.inl ⟨by rfl, ?_⟩) (by assumption) ?_
      rotate_left
      · (intro w' hSw; go_simp; try with_reducible rfl)
      (try simp only [List.getElem_toArray]); (try simp only [List.getElem_cons_succ]); (try simp only [List.getElem_cons_zero]); (try simp only [Act.put]); (try simp only [List.setIfInBounds_toArray]); (try simp only [List.set_cons_succ]); (try simp only [List.set_cons_zero])
      refine wpAnyH_take (i := 37) (v := ?_) rfl (by kernel_rfl) (by kernel_rfl) (by kernel_rfl) (fun _ _ _ h => h) (Or.inl ⟨by rfl, ?_⟩) (by assumption) ?_
      rotate_left
      · (intro w' hSw; go_simp; try with_reducible rfl)
      (try simp only [List.getElem_toArray]); (try simp only [List.getElem_cons_succ]); (try simp only [List.getElem_cons_zero]); (try simp only [Act.put]); (try simp only [List.setIfInBounds_toArray]); (try simp only [List.set_cons_succ]); (try simp only [List.set_cons_zero])
      refine wpAnyH_take (i := 38) (v := ?_) rfl (by kernel_rfl) (by kernel_rfl) (by kernel_rfl) (fun _ _ _ h => h) (Or.inl ⟨by rfl, ?_⟩) (by assumption) ?_
      rotate_left
      · (intro w' hSw; go_simp; try with_reducible rfl)
      (try simp only [List.getElem_toArray]); (try simp only [List.getElem_cons_succ]); (try simp only [List.getElem_cons_zero]); (try simp only [Act.put]); (try simp only [List.setIfInBounds_toArray]); (try simp only [List.set_cons_succ]); (try simp only [List.set_cons_zero])
      refine wpAnyH_take (i := 40) (v := ?_) rfl (by kernel_rfl) (by kernel_rfl) (by kernel_rfl) (fun _ _ _ h => h) (Or.inl ⟨by rfl, ?_⟩) (by assumption) ?_
      rotate_left
      · (intro w' hSw; go_simp; try with_reducible rfl)
      (try simp only [List.getElem_toArray]); (try simp only [List.getElem_cons_succ]); (try simp only [List.getElem_cons_zero]); (try simp only [Act.put]); (try simp only [List.setIfInBounds_toArray]); (try simp only [List.set_cons_succ]); (try simp only [List.set_cons_zero])
      refine wpAnyH_take (i := 41) (v := ?_) rfl (by kernel_rfl) (by kernel_rfl) (by kernel_rfl) (fun _ _ _ h => h) (Or.inl ⟨by rfl, ?_⟩) (by assumption) ?_
      rotate_left
      · (intro w' hSw; go_simp; try with_reducible rfl)
      (try simp only [List.getElem_toArray]); (try simp only [List.getElem_cons_succ]); (try simp only [List.getElem_cons_zero]); (try simp only [Act.put]); (try simp only [List.setIfInBounds_toArray]); (try simp only [List.set_cons_succ]); (try simp only [List.set_cons_zero])
      refine wpAnyH_ready (rs := [39]) (by kernel_rfl) (by simp) ?_
      refine AllReadyH.cons rfl (fun K hK => ?_) AllReadyH.nil
      go_simp
      go_at_call 40
      refine (implIsIvObs_any N9 P9 L9 m9 d9 xs9.length e9 X9 xs9 _ (hP9.up hV6) (hL9.up hV6) (by omega) (by omega) hcap9.1).mono ?_
      rintro e w606 ⟨rfl, hb606⟩
      have hV7 := Up.then_ hV6 hb606
      go_wp2_with fail
      refine hK.out _ _ (by exact ⟨hV7, fun _ _ hb => hV7.cell hb⟩) (fun hHeld7 => ?_)
      clear hK K
      (try simp only [List.getElem_toArray]); (try simp only [List.getElem_cons_succ]); (try simp only [List.getElem_cons_zero]); (try simp only [Act.put]); (try simp only [List.setIfInBounds_toArray]); (try simp only [List.set_cons_succ]); (try simp only [List.set_cons_zero])
      refine wpAnyH_ready (rs := [42]) (by kernel_rfl) (by simp) ?_
      refine AllReadyH.cons rfl (fun K hK => ?_) AllReadyH.nil
      go_simp
      go_at_call 60
      refine (specIsIvObs_any N9 P9 L9 m9 d9 xs9.length e9 X9 xs9 _ (hP9.up hV7) (hL9.up hV7) (by omega) (by omega)).mono ?_
      rintro e w607 ⟨rfl, hb607⟩
      have hV8 := Up.then_ hV7 hb607
      go_wp2_with fail
      refine hK.out _ _ (by exact ⟨hV8, fun _ _ hb => hV8.cell hb⟩) (fun hHeld8 => ?_)
      clear hK K
      (try simp only [List.getElem_toArray]); (try simp only [List.getElem_cons_succ]); (try simp only [List.getElem_cons_zero]); (try simp only [Act.put]); (try simp only [List.setIfInBounds_toArray]); (try simp only [List.set_cons_succ]); (try simp only [List.set_cons_zero])
      refine wpAnyH_take (i := 43) (v := ?_) rfl (by kernel_rfl) (by kernel_rfl) (by kernel_rfl) (fun _ _ _ h => h) (Or.inl ⟨by rfl, ?_⟩) (by assumption) ?_
      rotate_left
      · (intro w' hSw; go_simp; try with_reducible rfl)
      (try simp only [List.getElem_toArray]); (try simp only [List.getElem_cons_succ]); (try simp only [List.getElem_cons_zero]); (try simp only [Act.put]); (try simp only [List.setIfInBounds_toArray]); (try simp only [List.set_cons_succ]); (try simp only [List.set_cons_zero])
      refine wpAnyH_take (i := 44) (v := ?_) rfl (by kernel_rfl) (by kernel_rfl) (by kernel_rfl) (fun _ _ _ h => h) (Or.inl ⟨by rfl, ?_⟩) (by assumption) ?_
      rotate_left
      · (intro w' hSw; go_simp; try with_reducible rfl)
      (try simp only [List.getElem_toArray]); (try simp only [List.getElem_cons_succ]); (try simp only [List.getElem_cons_zero]); (try simp only [Act.put]); (try simp only [List.setIfInBounds_toArray]); (try simp only [List.set_cons_succ]); (try simp only [List.set_cons_zero])
      refine wpAnyH_take (i := 45) (v := ?_) rfl (by kernel_rfl) (by kernel_rfl) (by kernel_rfl) (fun _ _ _ h => h) (Or.inl ⟨by rfl, ?_⟩) (by assumption) ?_
      rotate_left
      · (intro w' hSw; go_simp; try with_reducible rfl)
      (try simp only [List.getElem_toArray]); (try simp only [List.getElem_cons_succ]); (try simp only [List.getElem_cons_zero]); (try simp only [Act.put]); (try simp only [List.setIfInBounds_toArray]); (try simp only [List.set_cons_succ]); (try simp only [List.set_cons_zero])
      refine wpAnyH_take (i := 46) (v := ?_) rfl (by kernel_rfl) (by kernel_rfl) (by kernel_rfl) (fun _ _ _ h => h) (Or.inl ⟨by rfl, ?_⟩) (by assumption) ?_
      rotate_left
      · (intro w' hSw; go_simp; try with_reducible rfl)
      (try simp only [List.getElem_toArray]); (try simp only [List.getElem_cons_succ]); (try simp only [List.getElem_cons_zero]); (try simp only [Act.put]); (try simp only [List.setIfInBounds_toArray]); (try simp only [List.set_cons_succ]); (try simp only [List.set_cons_zero])
      refine wpAnyH_take (i := 47) (v := ?_) rfl (by kernel_rfl) (by kernel_rfl) (by kernel_rfl) (fun _ _ _ h => h) (Or.inl ⟨by rfl, ?_⟩) (by assumption) ?_
      rotate_left
      · (intro w' hSw; go_simp; try with_reducible rfl)
      (try simp only [List.getElem_toArray]); (try simp only [List.getElem_cons_succ]); (try simp only [List.getElem_cons_zero]); (try simp only [Act.put]); (try simp only [List.setIfInBounds_toArray]); (try simp only [List.set_cons_succ]); (try simp only [List.set_cons_zero])
      refine wpAnyH_take (i := 48) (v := ?_) rfl (by kernel_rfl) (by kernel_rfl) (by kernel_rfl) (fun _ _ _ h => h) (Or.inl ⟨by rfl, ?_⟩) (by assumption) ?_
      rotate_left
      · (intro w' hSw; go_simp; try with_reducible rfl)
      (try simp only [List.getElem_toArray]); (try simp only [List.getElem_cons_succ]); (try simp only [List.getElem_cons_zero]); (try simp only [Act.put]); (try simp only [List.setIfInBounds_toArray]); (try simp only [List.set_cons_succ]); (try simp only [List.set_cons_zero])
      refine wpAnyH_take (i := 49) (v := ?_) rfl (by kernel_rfl) (by kernel_rfl) (by kernel_rfl) (fun _ _ _ h => h) (Or.inl ⟨by rfl, ?_⟩) (by assumption) ?_
      rotate_left
      · (intro w' hSw; go_simp; try with_reducible rfl)
      (try simp only [List.getElem_toArray]); (try simp only [List.getElem_cons_succ]); (try simp only [List.getElem_cons_zero]); (try simp only [Act.put]); (try simp only [List.setIfInBounds_toArray]); (try simp only [List.set_cons_succ]); (try simp only [List.set_cons_zero])
      refine wpAnyH_take (i := 50) (v := ?_) rfl (by kernel_rfl) (by kernel_rfl) (by kernel_rfl) (fun _ _ _ h => h) (Or.inl ⟨by rfl, ?_⟩) (by assumption) ?_
      rotate_left
      · (intro w' hSw; go_simp; try with_reducible rfl)
      (try simp only [List.getElem_toArray]); (try simp only [List.getElem_cons_succ]); (try simp only [List.getElem_cons_zero]); (try simp only [Act.put]); (try simp only [List.setIfInBounds_toArray]); (try simp only [List.set_cons_succ]); (try simp only [List.set_cons_zero])
      refine wpAnyH_take (i := 51) (v := ?_) rfl (by kernel_rfl) (by kernel_rfl) (by kernel_rfl) (fun _ _ _ h => h) (Or.inl ⟨by rfl, ?_⟩) (by assumption) ?_
      rotate_left
      · (intro w' hSw; go_simp; try with_reducible rfl)
      (try simp only [List.getElem_toArray]); (try simp only [List.getElem_cons_succ]); (try simp only [List.getElem_cons_zero]); (try simp only [Act.put]); (try simp only [List.setIfInBounds_toArray]); (try simp only [List.set_cons_succ]); (try simp only [List.set_cons_zero])
      refine wpAnyH_take (i := 52) (v := ?_) rfl (by kernel_rfl) (by kernel_rfl) (by kernel_rfl) (fun _ _ _ h => h) (Or.inl ⟨by rfl, ?_⟩) (by assumption) ?_
      rotate_left
      · (intro w' hSw; go_simp; try with_reducible rfl)
      (try simp only [List.getElem_toArray]); (try simp only [List.getElem_cons_succ]); (try simp only [List.getElem_cons_zero]); (try simp only [Act.put]); (try simp only [List.setIfInBounds_toArray]); (try simp only [List.set_cons_succ]); (try simp only [List.set_cons_zero])
      refine wpAnyH_ready (rs := [53]) (by kernel_rfl) (by simp) ?_
      refine AllReadyH.cons rfl (fun K hK => ?_) AllReadyH.nil
      go_simp
      go_at_call 13
      refine (sameInts_up (hO57.up hV8) (hO58.up hV8) (by omega)).mono ?_
      rintro e w608 ⟨rfl, hb608⟩
      have hV9 := Up.then_ hV8 hb608
      go_wp2_with fail
      refine hK.out _ _ (by exact ⟨hV9, fun _ _ hb => hV9.cell hb⟩) (fun hHeld9 => ?_)
      clear hK K
      (try simp only [List.getElem_toArray]); (try simp only [List.getElem_cons_succ]); (try simp only [List.getElem_cons_zero]); (try simp only [Act.put]); (try simp only [List.setIfInBounds_toArray]); (try simp only [List.set_cons_succ]); (try simp only [List.set_cons_zero])
      refine wpAnyH_take (i := 54) (v := ?_) rfl (by kernel_rfl) (by kernel_rfl) (by kernel_rfl) (fun _ _ _ h => h) (Or.inl ⟨by rfl, ?_⟩) (by assumption) ?_
      rotate_left
      · (intro w' hSw; go_simp; try with_reducible rfl)
      (try simp only [List.getElem_toArray]); (try simp only [List.getElem_cons_succ]); (try simp only [List.getElem_cons_zero]); (try simp only [Act.put]); (try simp only [List.setIfInBounds_toArray]); (try simp only [List.set_cons_succ]); (try simp only [List.set_cons_zero])
      refine wpAnyH_take (i := 55) (v := ?_) rfl (by kernel_rfl) (by kernel_rfl) (by kernel_rfl) (fun _ _ _ h => h) (Or.inl ⟨by rfl, ?_⟩) (by assumption) ?_
      rotate_left
      · (intro w' hSw; go_simp; try with_reducible rfl)
      (try simp only [List.getElem_toArray]); (try simp only [List.getElem_cons_succ]); (try simp only [List.getElem_cons_zero]); (try simp only [Act.put]); (try simp only [List.setIfInBounds_toArray]); (try simp only [List.set_cons_succ]); (try simp only [List.set_cons_zero])
      refine wpAnyH_done (by kernel_rfl) ?_ _
      have hU60 := hV9
      go_wp2
      go_ret
      exact ⟨rfl, Up.then_ hw58 hU60⟩
  · go_enter Tryz.func4, Tryz.ntmps4
    go_wp2_with fail
    refine (big_yes B n c _ (by omega) hn).mono ?_
    rintro e w1 ⟨rfl, hb1⟩
    have hU1 : Up w w1 := Up.then_ (by go_grown) hb1
    go_wp2
    go_ret
    exact ⟨rfl, hU1⟩
end Go.Proofs.YthncdjcmlpiebaaGreat
