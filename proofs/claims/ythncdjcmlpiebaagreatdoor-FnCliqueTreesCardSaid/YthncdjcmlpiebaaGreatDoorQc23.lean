/- The law FnCliqueTrees: its walk. -/
import Derived.Test.YthncdjcmlpiebaaGreatDoorQc10
import Derived.Test.YthncdjcmlpiebaaGreatDoorQc12
import Derived.Test.YthncdjcmlpiebaaGreatDoorQc13
import Derived.Test.YthncdjcmlpiebaaGreatDoorQc14
import Derived.Test.YthncdjcmlpiebaaGreatDoorQc15
import Derived.Test.YthncdjcmlpiebaaGreatDoorQc16
import Derived.Test.YthncdjcmlpiebaaGreatDoorQc17
import Derived.Test.YthncdjcmlpiebaaGreatDoorQc18
import Derived.Test.YthncdjcmlpiebaaGreatDoorQc19
import Derived.Test.YthncdjcmlpiebaaGreatDoorQc20
import Derived.Test.YthncdjcmlpiebaaGreatDoorQc22
namespace Go.Proofs.YthncdjcmlpiebaaGreatDoor
open Go.RowKit
set_option maxRecDepth 100000 in
theorem ct_flag (N : Int) (X : List Int) : (ctOf N X).2.2 = (elimOf N X).isSome := by
  rcases Bool.eq_false_or_eq_true (elimOf N X).isSome with e | e
  · rw [ctOf_yes e, e]
  · rw [ctOf_no e, e]
set_option maxRecDepth 100000 in
theorem seps_len7 {N : Int} {X : List Int} (h : X.length ≤ 6) : (ints (sepsOf N X)).length ≤ 1048576 := by
  rcases isGraph_cases N X with hg | ⟨n, Q, rfl, rfl, hk⟩
  · rw [sepsOf_no hg]; simp [ints]
  · rw [sepsOf_ok hk, ints_len]
    have h1 := filtK_len (minSep Q n) (2 ^ n)
    have h2 : n ≤ 6 := by have := hk.len; rw [ints_len] at h; omega
    have h3 : 2 ^ n ≤ 2 ^ 6 := Nat.pow_le_pow_right (by omega) h2
    omega
set_option maxRecDepth 100000 in
set_option maxHeartbeats 16000000 in
theorem lawCliqueTrees_any (B : Option Addr) (n c : Nat) (bs : List Int) (w : World) (hB : RB w B n bs) (hlow : ∀ ad, B = some ad → ad.block < w.heap.size) (hn : n ≤ 9223372036854775807) :
    Calls Tryz.prog 4 #[.slice B n c] w fun e w' => e = .returned (.bool true) ∧ Below w.heap.size w w' := by
  by_cases hs : n ≤ 1048576
  · go_enter Tryz.func4, Tryz.ntmps4
    go_wp2_with fail
    refine (big_no B n c _ hs).mono ?_
    rintro e w1 ⟨rfl, hb1⟩
    have hU1 : Up w w1 := Up.then_ (by go_grown) hb1
    replace hB := hB.up hU1
    have hlow1 : ∀ ad, B = some ad → ad.block < w1.heap.size := fun ad e => by have := hlow ad e; have := hU1.size; omega
    have hw1 : Below w.heap.size w w1 := hU1
    go_wp2_with fail
    refine (drawCliqueTreeOf_any B n c bs _ hB hs hlow1).mono ?_
    rintro e w2 ⟨N, A, m, d, X, rfl, hX, hle, hb2⟩
    have hU2 : Up w1 w2 := Up.then_ (by go_grown) hb2
    replace hB := hB.up hU2
    have hw2 := Up.then_ hw1 hU2
    have hm6 : m ≤ 6 := by rw [← hX.len]; exact hle
    have hX6 : X.length ≤ 6 := hle
    replace hX := hX.ri
    clear hU1 hb1 hlow1
    have hU3 : Up w2 (w2.alloc (.cells #[.int .i64 N, .slice A m d] 29)) := by go_grown
    have hG := Blk.new w2 29 #[.int .i64 N, .slice A m d]
    have hw3 := Up.then_ hw2 hU3
    replace hX := hX.up hU3
    replace hB := hB.up hU3
    obtain ⟨g3, hg3⟩ : ∃ g3, g3 = w2.heap.size := ⟨_, rfl⟩
    rw [← hg3] at hG
    go_wp2_with fail
    rw [← hg3]
    generalize w2.alloc (.cells #[.int .i64 N, .slice A m d] 29) = w3 at hG hX hB hw3 ⊢
    clear hg3 hU3
    have yhG := hG.two
    have lhG := hG.lt
    clear hU2 hb2 hw1 hw2
    obtain ⟨L, hL⟩ : ∃ L, L = (ctOf N X).1 := ⟨_, rfl⟩
    obtain ⟨R, hR⟩ : ∃ R, R = (ctOf N X).2.1 := ⟨_, rfl⟩
    obtain ⟨is, his⟩ : ∃ is, is = (elimOf N X).isSome := ⟨_, rfl⟩
    obtain ⟨sp, hsp⟩ : ∃ sp, sp = ints (sepsOf N X) := ⟨_, rfl⟩
    have hlen := ctOf_len N X
    have hspl := seps_len7 (N := N) hle
    rw [← hL, ← hR] at hlen
    rw [← hsp] at hspl
    obtain ⟨hlL, hlR⟩ := hlen
    have hcf := ct_flag N X
    have HTimpl : ∀ w', RI w' A m X → Calls Tryz.prog 33 #[.agg #[.int .i64 N, .slice A m d]] w' (GivesTB L R is w') := fun w' h => by rw [hL, hR, his, ← hcf]; exact implCliqueTreeOf_any N A m d X w' h (by omega)
    have HTspec : ∀ w', RI w' A m X → Calls Tryz.prog 34 #[.agg #[.int .i64 N, .slice A m d]] w' (GivesTB L R is w') := fun w' h => by rw [hL, hR, his, ← hcf]; exact specCliqueTreeOf_any N A m d X w' h (by omega)
    have HC : ∀ w', RI w' A m X → Calls Tryz.prog 36 #[.agg #[.int .i64 N, .slice A m d]] w' (fun e w'' => e = .returned (.bool is) ∧ Below w'.heap.size w' w'') := fun w' h => by exact specIsChordal_is h (by omega) his.symm
    have HS : ∀ w', RI w' A m X → Calls Tryz.prog 40 #[.agg #[.int .i64 N, .slice A m d]] w' (GivesI sp w') := fun w' h => by rw [hsp]; exact implSeparatorsOf_any N A m d X w' h (by omega)
    have HFA := Lib.hid (show is = true → isCliqTree N X L R = true ∧ treeSeps L R = sp ∧ hasGoT L R N = true ∧ goTRows L R N = X ∧ goTNum L R N = N from fun e => by rw [hL, hR, hsp]; exact tree_facts (by rw [← his]; exact e))
    clear hL hR his hsp hcf hle
    go_wp2_with fail
    refine (HTimpl _ hX).mono ?_
    rintro e w4 ⟨A4, c4, C4, d4, rfl, hP4, hQ4, hap4, hb4⟩
    have hU4 : Up w3 w4 := Up.then_ (by go_grown) hb4
    replace hB := hB.up hU4
    replace hX := hX.up hU4
    replace hG := hG.up hU4
    replace yhG := hG.two
    replace lhG := hG.lt
    have hw4 := Up.then_ hw3 hU4
    replace hP4 := hP4.ri
    replace hQ4 := hQ4.ri
    clear hap4
    have hU5 : Up w4 (w4.alloc (.cells #[.slice A4 L.length c4, .slice C4 R.length d4] 49)) := by go_grown
    have hT := Blk.new w4 49 #[.slice A4 L.length c4, .slice C4 R.length d4]
    have hw5 := Up.then_ hw4 hU5
    replace hX := hX.up hU5
    replace hB := hB.up hU5
    replace hG := hG.up hU5
    replace hP4 := hP4.up hU5
    replace hQ4 := hQ4.up hU5
    obtain ⟨g5, hg5⟩ : ∃ g5, g5 = w4.heap.size := ⟨_, rfl⟩
    rw [← hg5] at hT
    go_wp2_with fail
    rw [← hg5]
    generalize w4.alloc (.cells #[.slice A4 L.length c4, .slice C4 R.length d4] 49) = w5 at hT hX hB hG hP4 hQ4 hw5 ⊢
    clear hg5 hU5
    have yhG := hG.two
    have lhG := hG.lt
    have yhT := hT.two
    have lhT := hT.lt
    clear hU4 hb4 hw3 hw4
    go_wp2_with fail
    refine (HTspec _ hX).mono ?_
    rintro e w6 ⟨A6, c6, C6, d6, rfl, hP6, hQ6, hap6, hb6⟩
    have hU6 : Up w5 w6 := Up.then_ (by go_grown) hb6
    replace hB := hB.up hU6
    replace hX := hX.up hU6
    replace hG := hG.up hU6
    replace hT := hT.up hU6
    replace hP4 := hP4.up hU6
    replace hQ4 := hQ4.up hU6
    replace yhG := hG.two
    replace lhG := hG.lt
    replace yhT := hT.two
    replace lhT := hT.lt
    have hw6 := Up.then_ hw5 hU6
    replace hP6 := hP6.ri
    replace hQ6 := hQ6.ri
    clear hap6
    have hU7 : Up w6 (w6.alloc (.cells #[.slice A6 L.length c6, .slice C6 R.length d6] 49)) := by go_grown
    have hT7 := Blk.new w6 49 #[.slice A6 L.length c6, .slice C6 R.length d6]
    have hw7 := Up.then_ hw6 hU7
    replace hX := hX.up hU7
    replace hB := hB.up hU7
    replace hG := hG.up hU7
    replace hT := hT.up hU7
    replace hP4 := hP4.up hU7
    replace hQ4 := hQ4.up hU7
    replace hP6 := hP6.up hU7
    replace hQ6 := hQ6.up hU7
    obtain ⟨g7, hg7⟩ : ∃ g7, g7 = w6.heap.size := ⟨_, rfl⟩
    rw [← hg7] at hT7
    go_wp2_with fail
    rw [← hg7]
    generalize w6.alloc (.cells #[.slice A6 L.length c6, .slice C6 R.length d6] 49) = w7 at hT7 hX hB hG hT hP4 hQ4 hP6 hQ6 hw7 ⊢
    clear hg7 hU7
    have yhG := hG.two
    have lhG := hG.lt
    have yhT := hT.two
    have lhT := hT.lt
    have yhT7 := hT7.two
    have lhT7 := hT7.lt
    clear hU6 hb6 hw5 hw6 HTimpl HTspec
    have HE : ∀ w', RI w' A4 L.length L → RI w' C4 R.length R → RI w' A6 L.length L → RI w' C6 R.length R → Calls Tryz.prog 35 #[.agg #[.slice A4 L.length c4, .slice C4 R.length d4], .agg #[.slice A6 L.length c6, .slice C6 R.length d6]] w' (fun e w'' => e = .returned (.bool true) ∧ Below w'.heap.size w' w'') := fun w' h1 h2 h3 h4 => by
      have := specEqualTrees_any A4 C4 A6 C6 L.length R.length L.length R.length c4 d4 c6 d6 L R L R w' h1 h2 h3 h4 (by omega) (by omega)
      rw [decide_eq_true (rfl : L = L), decide_eq_true (rfl : R = R), Bool.and_self] at this
      exact this
    go_wp2_with fail
    refine (HE _ hP4 hQ4 hP6 hQ6).mono ?_
    rintro e w8 ⟨rfl, hb8⟩
    have hU8 : Up w7 w8 := hb8
    replace hB := hB.up hU8
    replace hX := hX.up hU8
    replace hG := hG.up hU8
    replace hT := hT.up hU8
    replace hP4 := hP4.up hU8
    replace hQ4 := hQ4.up hU8
    replace hT7 := hT7.up hU8
    replace hP6 := hP6.up hU8
    replace hQ6 := hQ6.up hU8
    replace yhG := hG.two
    replace lhG := hG.lt
    replace yhT := hT.two
    replace lhT := hT.lt
    replace yhT7 := hT7.two
    replace lhT7 := hT7.lt
    have hw8 := Up.then_ hw7 hU8
    go_wp2_with fail
    refine (HC _ hX).mono ?_
    rintro e w9 ⟨rfl, hb9⟩
    have hU9 : Up w8 w9 := Up.then_ (by go_grown) hb9
    replace hB := hB.up hU9
    replace hX := hX.up hU9
    replace hG := hG.up hU9
    replace hT := hT.up hU9
    replace hP4 := hP4.up hU9
    replace hQ4 := hQ4.up hU9
    replace hT7 := hT7.up hU9
    replace hP6 := hP6.up hU9
    replace hQ6 := hQ6.up hU9
    replace yhG := hG.two
    replace lhG := hG.lt
    replace yhT := hT.two
    replace lhT := hT.lt
    replace yhT7 := hT7.two
    replace lhT7 := hT7.lt
    have hw9 := Up.then_ hw8 hU9
    clear HE HC hU8 hb8 hU9 hb9 hw7 hw8 hP4 hQ4 hT yhT lhT
    cases is
    case' false =>
      clear HFA HS hspl hP6 hQ6 hT7 yhT7 lhT7
      go_wp2_with fail
      generalize w9 = wT at hB hw9 ⊢
      have hwT := hw9
      clear hw9
    case' true =>
      obtain ⟨a1, a2, a3, a4, a5⟩ := HFA.out rfl
      clear HFA
      have JG : ∀ w', RI w' A6 L.length L → RI w' C6 R.length R → Calls Tryz.prog 37 #[.agg #[.slice A6 L.length c6, .slice C6 R.length d6], .int .i64 N] w' (GivesGB N X true w') := fun w' h1 h2 => by
        have := implGraphOfTree_any A6 C6 L.length R.length c6 d6 L R N w' h1 h2 (by omega) (by omega)
        rw [a3, a4, a5] at this
        exact this
      have hEQ : sameGraph N N X X = true := by rw [sameGraph_yes]; exact decide_eq_true rfl
      have JE0 : ∀ A' c' w', RI w' A' X.length X → RI w' A m X → Calls Tryz.prog 13 #[.agg #[.int .i64 N, .slice A' X.length c'], .agg #[.int .i64 N, .slice A m d]] w' (fun e w'' => e = .returned (.bool true) ∧ Below w'.heap.size w' w'') := fun A' c' w' h1 h2 => by rw [← hEQ]; exact specEqualGraphs_any N N A' A X.length m c' d X X w' h1 h2 (by omega)
      have JK : ∀ w', RI w' A m X → RI w' A6 L.length L → RI w' C6 R.length R → Calls Tryz.prog 38 #[.agg #[.int .i64 N, .slice A m d], .agg #[.slice A6 L.length c6, .slice C6 R.length d6]] w' (fun e w'' => e = .returned (.bool true) ∧ Below w'.heap.size w' w'') := fun w' h0 h1 h2 => by rw [← a1]; exact implIsCliqueTree_any N A A6 C6 m d L.length R.length c6 d6 X L R w' h0 h1 h2 (by omega) (by omega) (by omega)
      have JS : ∀ w', RI w' A6 L.length L → RI w' C6 R.length R → Calls Tryz.prog 39 #[.agg #[.slice A6 L.length c6, .slice C6 R.length d6]] w' (GivesI sp w') := fun w' h1 h2 => by rw [← a2]; exact implTreeSeparators_any A6 C6 L.length R.length c6 d6 L R w' h1 h2 (by omega) (by omega)
      clear a1 a2 a3 a4 a5 hEQ
      go_wp2_with fail
      refine (JG _ hP6 hQ6).mono ?_
      rintro e w10 ⟨A10, c10, rfl, hO10, hb10⟩
      have hU10 : Up w9 w10 := Up.then_ (by go_grown) hb10
      replace hB := hB.up hU10
      replace hX := hX.up hU10
      replace hG := hG.up hU10
      replace hT7 := hT7.up hU10
      replace hP6 := hP6.up hU10
      replace hQ6 := hQ6.up hU10
      replace yhG := hG.two
      replace lhG := hG.lt
      replace yhT7 := hT7.two
      replace lhT7 := hT7.lt
      have hw10 := Up.then_ hw9 hU10
      replace hO10 := hO10.ri
      have hU11 : Up w10 (w10.alloc (.cells #[.int .i64 N, .slice A10 X.length c10] 29)) := by go_grown
      have hG11 := Blk.new w10 29 #[.int .i64 N, .slice A10 X.length c10]
      have hw11 := Up.then_ hw10 hU11
      replace hX := hX.up hU11
      replace hB := hB.up hU11
      replace hG := hG.up hU11
      replace hT7 := hT7.up hU11
      replace hP6 := hP6.up hU11
      replace hQ6 := hQ6.up hU11
      replace hO10 := hO10.up hU11
      obtain ⟨g11, hg11⟩ : ∃ g11, g11 = w10.heap.size := ⟨_, rfl⟩
      rw [← hg11] at hG11
      go_wp2_with fail
      rw [← hg11]
      generalize w10.alloc (.cells #[.int .i64 N, .slice A10 X.length c10] 29) = w11 at hG11 hX hB hG hT7 hP6 hQ6 hO10 hw11 ⊢
      clear hg11 hU11
      have yhG := hG.two
      have lhG := hG.lt
      have yhT7 := hT7.two
      have lhT7 := hT7.lt
      have yhG11 := hG11.two
      have lhG11 := hG11.lt
      clear hU10 hb10 hw9 hw10 JG
      have JE := JE0 A10 c10
      clear JE0
      go_wp2_with fail
      have hV0 : Up w11 w11.drew := (Up.refl _).drew
      refine wp_region_held_drew (S := (fun w' => Up w11 w' ∧ (∀ b o, b < w11.heap.size → w'.cell? ⟨b, o, none⟩ = w11.cell? ⟨b, o, none⟩))) (by kernel_rfl) (by exact ⟨hV0, fun _ _ hb => hV0.cell hb⟩) (fun hHeld => ?_)
      refine wpAnyH_take (i := 0) (v := ?_) rfl (by kernel_rfl) (by kernel_rfl) (by kernel_rfl) (fun _ _ _ h => h) (Or.inl ⟨by rfl, ?_⟩) (by assumption) ?_
      rotate_left
      · (intro w' hSw; go_simp; try with_reducible rfl)
      (try simp only [List.getElem_toArray]); (try simp only [List.getElem_cons_succ]); (try simp only [List.getElem_cons_zero]); (try simp only [Act.put]); (try simp only [List.setIfInBounds_toArray]); (try simp only [List.set_cons_succ]); (try simp only [List.set_cons_zero])
      refine wpAnyH_take (i := 1) (v := ?_) rfl (by kernel_rfl) (by kernel_rfl) (by kernel_rfl) (fun _ _ _ h => h) (Or.inl ⟨by rfl, ?_⟩) (by assumption) ?_
      rotate_left
      · (intro w' hSw; go_simp; try with_reducible rfl)
      (try simp only [List.getElem_toArray]); (try simp only [List.getElem_cons_succ]); (try simp only [List.getElem_cons_zero]); (try simp only [Act.put]); (try simp only [List.setIfInBounds_toArray]); (try simp only [List.set_cons_succ]); (try simp only [List.set_cons_zero])
      refine wpAnyH_take (i := 2) (v := ?_) rfl (by kernel_rfl) (by kernel_rfl) (by kernel_rfl) (fun _ _ _ h => h) (Or.inl ⟨by rfl, ?_⟩) (by assumption) ?_
      rotate_left
      · (intro w' hSw; go_simp; try with_reducible rfl)
      (try simp only [List.getElem_toArray]); (try simp only [List.getElem_cons_succ]); (try simp only [List.getElem_cons_zero]); (try simp only [Act.put]); (try simp only [List.setIfInBounds_toArray]); (try simp only [List.set_cons_succ]); (try simp only [List.set_cons_zero])
      refine wpAnyH_take (i := 3) (v := ?_) rfl (by kernel_rfl) (by kernel_rfl) (by kernel_rfl) (fun _ _ _ h => h) (Or.inl ⟨by rfl, ?_⟩) (by assumption) ?_
      rotate_left
      · (intro w' hSw; go_simp; try with_reducible rfl)
      (try simp only [List.getElem_toArray]); (try simp only [List.getElem_cons_succ]); (try simp only [List.getElem_cons_zero]); (try simp only [Act.put]); (try simp only [List.setIfInBounds_toArray]); (try simp only [List.set_cons_succ]); (try simp only [List.set_cons_zero])
      refine wpAnyH_take (i := 4) (v := ?_) rfl (by kernel_rfl) (by kernel_rfl) (by kernel_rfl) (fun _ _ _ h => h) (Or.inl ⟨by rfl, ?_⟩) (by assumption) ?_
      rotate_left
      · (intro w' hSw; go_simp; try with_reducible rfl)
      (try simp only [List.getElem_toArray]); (try simp only [List.getElem_cons_succ]); (try simp only [List.getElem_cons_zero]); (try simp only [Act.put]); (try simp only [List.setIfInBounds_toArray]); (try simp only [List.set_cons_succ]); (try simp only [List.set_cons_zero])
      refine wpAnyH_ready (rs := [5]) (by kernel_rfl) (by simp) ?_
      refine AllReadyH.cons rfl (fun K hK => ?_) AllReadyH.nil
      go_simp
      go_at_call 13
      refine (JE _ (hO10.up hV0) (hX.up hV0)).mono ?_
      rintro e w120 ⟨rfl, hb120⟩
      have hV1 := Up.then_ hV0 hb120
      go_wp2_with fail
      refine hK.out _ _ (by exact ⟨hV1, fun _ _ hb => hV1.cell hb⟩) (fun hHeld1 => ?_)
      clear hK K
      (try simp only [List.getElem_toArray]); (try simp only [List.getElem_cons_succ]); (try simp only [List.getElem_cons_zero]); (try simp only [Act.put]); (try simp only [List.setIfInBounds_toArray]); (try simp only [List.set_cons_succ]); (try simp only [List.set_cons_zero])
      refine wpAnyH_take (i := 6) (v := ?_) rfl (by kernel_rfl) (by kernel_rfl) (by kernel_rfl) (fun _ _ _ h => h) (Or.inl ⟨by rfl, ?_⟩) (by assumption) ?_
      rotate_left
      · (intro w' hSw; go_simp; try with_reducible rfl)
      (try simp only [List.getElem_toArray]); (try simp only [List.getElem_cons_succ]); (try simp only [List.getElem_cons_zero]); (try simp only [Act.put]); (try simp only [List.setIfInBounds_toArray]); (try simp only [List.set_cons_succ]); (try simp only [List.set_cons_zero])
      refine wpAnyH_take (i := 7) (v := ?_) rfl (by kernel_rfl) (by kernel_rfl) (by kernel_rfl) (fun _ _ _ h => h) (Or.inl ⟨by rfl, ?_⟩) (by assumption) ?_
      rotate_left
      · (intro w' hSw; go_simp; try with_reducible rfl)
      (try simp only [List.getElem_toArray]); (try simp only [List.getElem_cons_succ]); (try simp only [List.getElem_cons_zero]); (try simp only [Act.put]); (try simp only [List.setIfInBounds_toArray]); (try simp only [List.set_cons_succ]); (try simp only [List.set_cons_zero])
      refine wpAnyH_take (i := 8) (v := ?_) rfl (by kernel_rfl) (by kernel_rfl) (by kernel_rfl) (fun _ _ _ h => h) (Or.inl ⟨by rfl, ?_⟩) (by assumption) ?_
      rotate_left
      · (intro w' hSw; go_simp; try with_reducible rfl)
      (try simp only [List.getElem_toArray]); (try simp only [List.getElem_cons_succ]); (try simp only [List.getElem_cons_zero]); (try simp only [Act.put]); (try simp only [List.setIfInBounds_toArray]); (try simp only [List.set_cons_succ]); (try simp only [List.set_cons_zero])
      refine wpAnyH_take (i := 9) (v := ?_) rfl (by kernel_rfl) (by kernel_rfl) (by kernel_rfl) (fun _ _ _ h => h) (Or.inl ⟨by rfl, ?_⟩) (by assumption) ?_
      rotate_left
      · (intro w' hSw; go_simp; try with_reducible rfl)
      (try simp only [List.getElem_toArray]); (try simp only [List.getElem_cons_succ]); (try simp only [List.getElem_cons_zero]); (try simp only [Act.put]); (try simp only [List.setIfInBounds_toArray]); (try simp only [List.set_cons_succ]); (try simp only [List.set_cons_zero])
      refine wpAnyH_take (i := 10) (v := ?_) rfl (by kernel_rfl) (by kernel_rfl) (by kernel_rfl) (fun _ _ _ h => h) (Or.inl ⟨by rfl, ?_⟩) (by assumption) ?_
      rotate_left
      · (intro w' hSw; go_simp; try with_reducible rfl)
      (try simp only [List.getElem_toArray]); (try simp only [List.getElem_cons_succ]); (try simp only [List.getElem_cons_zero]); (try simp only [Act.put]); (try simp only [List.setIfInBounds_toArray]); (try simp only [List.set_cons_succ]); (try simp only [List.set_cons_zero])
      refine wpAnyH_ready (rs := [11]) (by kernel_rfl) (by simp) ?_
      refine AllReadyH.cons rfl (fun K hK => ?_) AllReadyH.nil
      go_simp
      go_at_call 38
      refine (JK _ (hX.up hV1) (hP6.up hV1) (hQ6.up hV1)).mono ?_
      rintro e w121 ⟨rfl, hb121⟩
      have hV2 := Up.then_ hV1 hb121
      go_wp2_with fail
      refine hK.out _ _ (by exact ⟨hV2, fun _ _ hb => hV2.cell hb⟩) (fun hHeld2 => ?_)
      clear hK K
      (try simp only [List.getElem_toArray]); (try simp only [List.getElem_cons_succ]); (try simp only [List.getElem_cons_zero]); (try simp only [Act.put]); (try simp only [List.setIfInBounds_toArray]); (try simp only [List.set_cons_succ]); (try simp only [List.set_cons_zero])
      refine wpAnyH_take (i := 12) (v := ?_) rfl (by kernel_rfl) (by kernel_rfl) (by kernel_rfl) (fun _ _ _ h => h) (Or.inl ⟨by rfl, ?_⟩) (by assumption) ?_
      rotate_left
      · (intro w' hSw; go_simp; try with_reducible rfl)
      (try simp only [List.getElem_toArray]); (try simp only [List.getElem_cons_succ]); (try simp only [List.getElem_cons_zero]); (try simp only [Act.put]); (try simp only [List.setIfInBounds_toArray]); (try simp only [List.set_cons_succ]); (try simp only [List.set_cons_zero])
      refine wpAnyH_take (i := 13) (v := ?_) rfl (by kernel_rfl) (by kernel_rfl) (by kernel_rfl) (fun _ _ _ h => h) (Or.inl ⟨by rfl, ?_⟩) (by assumption) ?_
      rotate_left
      · (intro w' hSw; go_simp; try with_reducible rfl)
      (try simp only [List.getElem_toArray]); (try simp only [List.getElem_cons_succ]); (try simp only [List.getElem_cons_zero]); (try simp only [Act.put]); (try simp only [List.setIfInBounds_toArray]); (try simp only [List.set_cons_succ]); (try simp only [List.set_cons_zero])
      refine wpAnyH_take (i := 14) (v := ?_) rfl (by kernel_rfl) (by kernel_rfl) (by kernel_rfl) (fun _ _ _ h => h) (Or.inl ⟨by rfl, ?_⟩) (by assumption) ?_
      rotate_left
      · (intro w' hSw; go_simp; try with_reducible rfl)
      (try simp only [List.getElem_toArray]); (try simp only [List.getElem_cons_succ]); (try simp only [List.getElem_cons_zero]); (try simp only [Act.put]); (try simp only [List.setIfInBounds_toArray]); (try simp only [List.set_cons_succ]); (try simp only [List.set_cons_zero])
      refine wpAnyH_take (i := 15) (v := ?_) rfl (by kernel_rfl) (by kernel_rfl) (by kernel_rfl) (fun _ _ _ h => h) (Or.inl ⟨by rfl, ?_⟩) (by assumption) ?_
      rotate_left
      · (intro w' hSw; go_simp; try with_reducible rfl)
      (try simp only [List.getElem_toArray]); (try simp only [List.getElem_cons_succ]); (try simp only [List.getElem_cons_zero]); (try simp only [Act.put]); (try simp only [List.setIfInBounds_toArray]); (try simp only [List.set_cons_succ]); (try simp only [List.set_cons_zero])
      refine wpAnyH_take (i := 17) (v := ?_) rfl (by kernel_rfl) (by kernel_rfl) (by kernel_rfl) (fun _ _ _ h => h) (Or.inl ⟨by rfl, ?_⟩) (by assumption) ?_
      rotate_left
      · (intro w' hSw; go_simp; try with_reducible rfl)
      (try simp only [List.getElem_toArray]); (try simp only [List.getElem_cons_succ]); (try simp only [List.getElem_cons_zero]); (try simp only [Act.put]); (try simp only [List.setIfInBounds_toArray]); (try simp only [List.set_cons_succ]); (try simp only [List.set_cons_zero])
      refine wpAnyH_ready (rs := [16]) (by kernel_rfl) (by simp) ?_
      refine AllReadyH.cons rfl (fun K hK => ?_) AllReadyH.nil
      go_simp
      go_at_call 39
      refine (JS _ (hP6.up hV2) (hQ6.up hV2)).mono ?_
      rintro e w122 ⟨As, cs, rfl, hOs, hb122⟩
      have hV3 := Up.then_ hV2 hb122
      go_wp2_with fail
      refine hK.out _ _ (by exact ⟨hV3, fun _ _ hb => hV3.cell hb⟩) (fun hHeld3 => ?_)
      clear hK K
      (try simp only [List.getElem_toArray]); (try simp only [List.getElem_cons_succ]); (try simp only [List.getElem_cons_zero]); (try simp only [Act.put]); (try simp only [List.setIfInBounds_toArray]); (try simp only [List.set_cons_succ]); (try simp only [List.set_cons_zero])
      refine wpAnyH_ready (rs := [18]) (by kernel_rfl) (by simp) ?_
      refine AllReadyH.cons rfl (fun K hK => ?_) AllReadyH.nil
      go_simp
      go_at_call 40
      refine (HS _ (hX.up hV3)).mono ?_
      rintro e w123 ⟨Bs, ds, rfl, hOt, hb123⟩
      have hV4 := Up.then_ hV3 hb123
      go_wp2_with fail
      refine hK.out _ _ (by exact ⟨hV4, fun _ _ hb => hV4.cell hb⟩) (fun hHeld4 => ?_)
      clear hK K
      (try simp only [List.getElem_toArray]); (try simp only [List.getElem_cons_succ]); (try simp only [List.getElem_cons_zero]); (try simp only [Act.put]); (try simp only [List.setIfInBounds_toArray]); (try simp only [List.set_cons_succ]); (try simp only [List.set_cons_zero])
      refine wpAnyH_ready (rs := [19]) (by kernel_rfl) (by simp) ?_
      refine AllReadyH.cons rfl (fun K hK => ?_) AllReadyH.nil
      go_simp
      go_at_call 14
      refine (sameInts_up (hOs.ri.up hb123) hOt.ri (by omega)).mono ?_
      rintro e w124 ⟨rfl, hb124⟩
      have hV5 := Up.then_ hV4 hb124
      go_wp2_with fail
      refine hK.out _ _ (by exact ⟨hV5, fun _ _ hb => hV5.cell hb⟩) (fun hHeld5 => ?_)
      clear hK K
      (try simp only [List.getElem_toArray]); (try simp only [List.getElem_cons_succ]); (try simp only [List.getElem_cons_zero]); (try simp only [Act.put]); (try simp only [List.setIfInBounds_toArray]); (try simp only [List.set_cons_succ]); (try simp only [List.set_cons_zero])
      refine wpAnyH_take (i := 20) (v := ?_) rfl (by kernel_rfl) (by kernel_rfl) (by kernel_rfl) (fun _ _ _ h => h) (Or.inl ⟨by rfl, ?_⟩) (by assumption) ?_
      rotate_left
      · (intro w' hSw; go_simp; try with_reducible rfl)
      (try simp only [List.getElem_toArray]); (try simp only [List.getElem_cons_succ]); (try simp only [List.getElem_cons_zero]); (try simp only [Act.put]); (try simp only [List.setIfInBounds_toArray]); (try simp only [List.set_cons_succ]); (try simp only [List.set_cons_zero])
      refine wpAnyH_take (i := 21) (v := ?_) rfl (by kernel_rfl) (by kernel_rfl) (by kernel_rfl) (fun _ _ _ h => h) (Or.inl ⟨by rfl, ?_⟩) (by assumption) ?_
      rotate_left
      · (intro w' hSw; go_simp; try with_reducible rfl)
      (try simp only [List.getElem_toArray]); (try simp only [List.getElem_cons_succ]); (try simp only [List.getElem_cons_zero]); (try simp only [Act.put]); (try simp only [List.setIfInBounds_toArray]); (try simp only [List.set_cons_succ]); (try simp only [List.set_cons_zero])
      refine wpAnyH_done (by kernel_rfl) ?_ _
      have hU12 := hV5
      replace hB := hB.up hU12
      replace hX := hX.up hU12
      replace hG := hG.up hU12
      replace hT7 := hT7.up hU12
      replace hP6 := hP6.up hU12
      replace hQ6 := hQ6.up hU12
      replace hG11 := hG11.up hU12
      replace hO10 := hO10.up hU12
      replace yhG := hG.two
      replace lhG := hG.lt
      replace yhT7 := hT7.two
      replace lhT7 := hT7.lt
      replace yhG11 := hG11.two
      replace lhG11 := hG11.lt
      have hw12 := Up.then_ hw11 hU12
      clear hV0 hV1 hV2 hV3 hV4 hV5 hb120 hb121 hb122 hb123 hb124 hHeld hHeld1 hHeld2 hHeld3 hHeld4 hHeld5 hU12 hw11 JE JK JS HS hOs hOt hO10 hG11 yhG11 lhG11 hP6 hQ6 hT7 yhT7 lhT7 hspl
      go_wp2_with fail
      generalize w124 = wT at hB hw12 ⊢
      have hwT := hw12
      clear hw12
    all_goals
      as_aux_lemma =>
        have hlowT : ∀ ad, B = some ad → ad.block < wT.heap.size := fun ad e => by have := hlow ad e; have := hwT.size; omega
        clear hX hG yhG lhG hlL hlR hm6 hX6
        refine (drawSeparatorsOf_any B n c bs _ hB hs hlowT).mono ?_
        rintro e w20 ⟨N1, P1, m1, d1, X1, rfl, hP1, hle1, hb20⟩
        have hU20 : Up wT w20 := hb20
        replace hB := hB.up hU20
        have hw20 := Up.then_ hwT hU20
        have hm1 : m1 ≤ 6 := by rw [← hP1.len]; exact hle1
        replace hP1 := hP1.ri
        have hU21 : Up w20 (w20.alloc (.cells #[.int .i64 N1, .slice P1 m1 d1] 29)) := by go_grown
        have hG1 := Blk.new w20 29 #[.int .i64 N1, .slice P1 m1 d1]
        have hw21 := Up.then_ hw20 hU21
        replace hP1 := hP1.up hU21
        replace hB := hB.up hU21
        obtain ⟨g21, hg21⟩ : ∃ g21, g21 = w20.heap.size := ⟨_, rfl⟩
        rw [← hg21] at hG1
        go_wp2_with fail
        rw [← hg21]
        generalize w20.alloc (.cells #[.int .i64 N1, .slice P1 m1 d1] 29) = w21 at hG1 hP1 hB hw21 ⊢
        have hlow21 : ∀ ad, B = some ad → ad.block < w21.heap.size := fun ad e => by have := hlow ad e; have := hw21.size; omega
        clear hg21 hU21
        clear hU20 hb20 hw20 hlowT
        refine (drawIsMinimalSeparator_any B n c bs _ hB hs hlow21).mono ?_
        rintro e w22 ⟨N2, P2, m2, d2, X2, z2, rfl, hP2, hle2, hb22⟩
        have hU22 : Up w21 w22 := hb22
        replace hB := hB.up hU22
        replace hP1 := hP1.up hU22
        replace hG1 := hG1.up hU22
        have hw22 := Up.then_ hw21 hU22
        have hm2 : m2 ≤ 6 := by rw [← hP2.len]; exact hle2
        replace hP2 := hP2.ri
        clear hle2
        have hU23 : Up w22 (w22.alloc (.cells #[.int .i64 N2, .slice P2 m2 d2] 29)) := by go_grown
        have hG2 := Blk.new w22 29 #[.int .i64 N2, .slice P2 m2 d2]
        have hw23 := Up.then_ hw22 hU23
        replace hP1 := hP1.up hU23
        replace hG1 := hG1.up hU23
        replace hP2 := hP2.up hU23
        replace hB := hB.up hU23
        obtain ⟨g23, hg23⟩ : ∃ g23, g23 = w22.heap.size := ⟨_, rfl⟩
        rw [← hg23] at hG2
        go_wp2_with fail
        rw [← hg23]
        generalize w22.alloc (.cells #[.int .i64 N2, .slice P2 m2 d2] 29) = w23 at hG2 hP1 hG1 hP2 hB hw23 ⊢
        have hlow23 : ∀ ad, B = some ad → ad.block < w23.heap.size := fun ad e => by have := hlow ad e; have := hw23.size; omega
        clear hg23 hU23
        clear hU22 hb22 hw21 hw22 hlow21
        refine (drawIsCliqueTree_any B n c bs _ hB hs hlow23).mono ?_
        rintro e w24 ⟨N3, P3, m3, d3, X3, K3, k3, kc3, J3, j3, jc3, L3, R3, rfl, hP3, hle3, hK3, hJ3, hk3, hj3, hb24⟩
        have hU24 : Up w23 w24 := hb24
        replace hB := hB.up hU24
        replace hP1 := hP1.up hU24
        replace hG1 := hG1.up hU24
        replace hP2 := hP2.up hU24
        replace hG2 := hG2.up hU24
        have hw24 := Up.then_ hw23 hU24
        have hm3 : m3 ≤ 6 := by rw [← hP3.1]; exact hle3
        clear hle3 hU24 hb24 hw23 hlow23
        have hU25 : Up w24 ((w24.alloc (.cells #[.int .i64 N3, .slice P3 m3 d3] 29)).alloc (.cells #[.slice K3 k3 kc3, .slice J3 j3 jc3] 49)) := by go_grown
        have hG3 := (Blk.new w24 29 #[.int .i64 N3, .slice P3 m3 d3]).alloc (.cells #[.slice K3 k3 kc3, .slice J3 j3 jc3] 49)
        have hT3 : Blk ((w24.alloc (.cells #[.int .i64 N3, .slice P3 m3 d3] 29)).alloc (.cells #[.slice K3 k3 kc3, .slice J3 j3 jc3] 49)) (w24.heap.size + 1) 49 #[.slice K3 k3 kc3, .slice J3 j3 jc3] := Blk.new_at (by simp)
        have hw25 := Up.then_ hw24 hU25
        replace hP1 := hP1.up hU25
        replace hG1 := hG1.up hU25
        replace hP2 := hP2.up hU25
        replace hG2 := hG2.up hU25
        replace hP3 := hP3.up hU25
        replace hK3 := hK3.up hU25
        replace hJ3 := hJ3.up hU25
        replace hB := hB.up hU25
        obtain ⟨g26, hg26⟩ : ∃ g26, g26 = w24.heap.size + 1 := ⟨_, rfl⟩
        obtain ⟨g25, hg25⟩ : ∃ g25, g25 = w24.heap.size := ⟨_, rfl⟩
        rw [← hg26] at hT3
        rw [← hg25] at hG3
        go_wp2_with fail
        rw [← hg26]
        rw [← hg25]
        generalize (w24.alloc (.cells #[.int .i64 N3, .slice P3 m3 d3] 29)).alloc (.cells #[.slice K3 k3 kc3, .slice J3 j3 jc3] 49) = w25 at hG3 hT3 hP1 hG1 hP2 hG2 hP3 hK3 hJ3 hB hw25 ⊢
        clear hg25 hg26 hU25 hw24
        have yhG3 := hG3.two
        have lhG3 := hG3.lt
        have yhT3 := hT3.two
        have lhT3 := hT3.lt
        obtain ⟨yes, hyes⟩ : ∃ yes, yes = isCliqTree N3 X3 L3 R3 := ⟨_, rfl⟩
        have HK : ∀ w', RI w' P3 m3 X3 → RI w' K3 k3 L3 → RI w' J3 j3 R3 → Calls Tryz.prog 38 #[.agg #[.int .i64 N3, .slice P3 m3 d3], .agg #[.slice K3 k3 kc3, .slice J3 j3 jc3]] w' (fun e w'' => e = .returned (.bool yes) ∧ Below w'.heap.size w' w'') := fun w' h0 h1 h2 => by rw [hyes]; exact implIsCliqueTree_any N3 P3 K3 J3 m3 d3 k3 j3 kc3 jc3 X3 L3 R3 w' h0 h1 h2 (by omega) (by omega) (by omega)
        have HKs : ∀ w', RI w' P3 m3 X3 → RI w' K3 k3 L3 → RI w' J3 j3 R3 → Calls Tryz.prog 50 #[.agg #[.int .i64 N3, .slice P3 m3 d3], .agg #[.slice K3 k3 kc3, .slice J3 j3 jc3]] w' (fun e w'' => e = .returned (.bool yes) ∧ Below w'.heap.size w' w'') := fun w' h0 h1 h2 => by rw [hyes]; exact specIsCliqueTree_any N3 P3 K3 J3 m3 d3 k3 j3 kc3 jc3 X3 L3 R3 w' h0 h1 h2 (by omega) (by omega) (by omega)
        have HKc := Lib.hid (show yes = true → ∀ w', RI w' P3 m3 X3 → Calls Tryz.prog 36 #[.agg #[.int .i64 N3, .slice P3 m3 d3]] w' (fun e w'' => e = .returned (.bool true) ∧ Below w'.heap.size w' w'') from fun e w' h => specIsChordal_is h (by omega) (cliqTree_chordal (by rw [← hyes]; exact e)))
        clear hyes
        go_wp2_with fail
        refine (HK _ hP3 hK3 hJ3).mono ?_
        rintro e w27 ⟨rfl, hb27⟩
        have hU27 : Up w25 w27 := Up.then_ (by go_grown) hb27
        replace hB := hB.up hU27
        replace hP1 := hP1.up hU27
        replace hG1 := hG1.up hU27
        replace hP2 := hP2.up hU27
        replace hG2 := hG2.up hU27
        replace hP3 := hP3.up hU27
        replace hK3 := hK3.up hU27
        replace hJ3 := hJ3.up hU27
        replace hG3 := hG3.up hU27
        replace hT3 := hT3.up hU27
        replace yhG3 := hG3.two
        replace lhG3 := hG3.lt
        replace yhT3 := hT3.two
        replace lhT3 := hT3.lt
        have hw27 := Up.then_ hw25 hU27
        clear HK hU27 hb27 hw25
        have hlow27 : ∀ ad, B = some ad → ad.block < w27.heap.size := fun ad e => by have := hlow ad e; have := hw27.size; omega
        go_wp2_with fail
        refine (drawGraphOfTree_any B n c bs _ hB hs hlow27).mono ?_
        rintro e w28 ⟨N4, K4, k4, kc4, J4, j4, jc4, L4, R4, rfl, hK4, hJ4, hk4, hj4, hb28⟩
        have hU28 : Up w27 w28 := Up.then_ (by go_grown) hb28
        replace hB := hB.up hU28
        replace hP1 := hP1.up hU28
        replace hG1 := hG1.up hU28
        replace hP2 := hP2.up hU28
        replace hG2 := hG2.up hU28
        replace hP3 := hP3.up hU28
        replace hK3 := hK3.up hU28
        replace hJ3 := hJ3.up hU28
        replace hG3 := hG3.up hU28
        replace hT3 := hT3.up hU28
        replace yhG3 := hG3.two
        replace lhG3 := hG3.lt
        replace yhT3 := hT3.two
        replace lhT3 := hT3.lt
        have hw28 := Up.then_ hw27 hU28
        have hU29 : Up w28 (w28.alloc (.cells #[.slice K4 k4 kc4, .slice J4 j4 jc4] 49)) := by go_grown
        have hT4 := Blk.new w28 49 #[.slice K4 k4 kc4, .slice J4 j4 jc4]
        have hw29 := Up.then_ hw28 hU29
        replace hP1 := hP1.up hU29
        replace hG1 := hG1.up hU29
        replace hP2 := hP2.up hU29
        replace hG2 := hG2.up hU29
        replace hP3 := hP3.up hU29
        replace hK3 := hK3.up hU29
        replace hJ3 := hJ3.up hU29
        replace hG3 := hG3.up hU29
        replace hT3 := hT3.up hU29
        replace hK4 := hK4.up hU29
        replace hJ4 := hJ4.up hU29
        replace hB := hB.up hU29
        obtain ⟨g29, hg29⟩ : ∃ g29, g29 = w28.heap.size := ⟨_, rfl⟩
        rw [← hg29] at hT4
        go_wp2_with fail
        rw [← hg29]
        generalize w28.alloc (.cells #[.slice K4 k4 kc4, .slice J4 j4 jc4] 49) = w29 at hT4 hP1 hG1 hP2 hG2 hP3 hK3 hJ3 hG3 hT3 hK4 hJ4 hB hw29 ⊢
        clear hg29 hU29
        have yhT4 := hT4.two
        have lhT4 := hT4.lt
        clear hU28 hb28 hw27 hw28 hlow27
        obtain ⟨gn, hgn⟩ : ∃ gn, gn = goTNum L4 R4 N4 := ⟨_, rfl⟩
        obtain ⟨gx, hgx⟩ : ∃ gx, gx = goTRows L4 R4 N4 := ⟨_, rfl⟩
        obtain ⟨gf, hgf⟩ : ∃ gf, gf = hasGoT L4 R4 N4 := ⟨_, rfl⟩
        have hgxl : gx.length ≤ 7 := by rw [hgx]; exact goTRows_len L4 R4 N4
        obtain ⟨ts, hts⟩ : ∃ ts, ts = treeSeps L4 R4 := ⟨_, rfl⟩
        have htsl : ts.length ≤ 1048576 := by rw [hts]; exact treeSeps_len L4 R4
        obtain ⟨it, hit⟩ : ∃ it, it = isTree L4 R4 := ⟨_, rfl⟩
        obtain ⟨ft, hft⟩ : ∃ ft, ft = sb (ftree L4 R4) := ⟨_, rfl⟩
        have HGimpl : ∀ w', RI w' K4 k4 L4 → RI w' J4 j4 R4 → Calls Tryz.prog 37 #[.agg #[.slice K4 k4 kc4, .slice J4 j4 jc4], .int .i64 N4] w' (GivesGB gn gx gf w') := fun w' h1 h2 => by rw [hgn, hgx, hgf]; exact implGraphOfTree_any K4 J4 k4 j4 kc4 jc4 L4 R4 N4 w' h1 h2 (by omega) (by omega)
        have HSimpl : ∀ w', RI w' K4 k4 L4 → RI w' J4 j4 R4 → Calls Tryz.prog 39 #[.agg #[.slice K4 k4 kc4, .slice J4 j4 jc4]] w' (GivesI ts w') := fun w' h1 h2 => by rw [hts]; exact implTreeSeparators_any K4 J4 k4 j4 kc4 jc4 L4 R4 w' h1 h2 (by omega) (by omega)
        have HIimpl : ∀ w', RI w' K4 k4 L4 → RI w' J4 j4 R4 → Calls Tryz.prog 52 #[.agg #[.slice K4 k4 kc4, .slice J4 j4 jc4]] w' (fun e w'' => e = .returned (.bool it) ∧ Below w'.heap.size w' w'') := fun w' h1 h2 => by rw [hit]; exact implIsTree_any K4 J4 k4 j4 kc4 jc4 L4 R4 w' h1 h2 (by omega) (by omega)
        have HFimpl : ∀ w', RI w' K4 k4 L4 → RI w' J4 j4 R4 → Calls Tryz.prog 54 #[.agg #[.slice K4 k4 kc4, .slice J4 j4 jc4]] w' (fun e w'' => e = .returned (.string ft) ∧ Below w'.heap.size w' w'') := fun w' h1 h2 => by rw [hft]; exact implFormatTree_any K4 J4 k4 j4 kc4 jc4 L4 R4 w' h1 h2 (by omega) (by omega)
        have HGspec : ∀ w', RI w' K4 k4 L4 → RI w' J4 j4 R4 → Calls Tryz.prog 45 #[.agg #[.slice K4 k4 kc4, .slice J4 j4 jc4], .int .i64 N4] w' (GivesGB gn gx gf w') := fun w' h1 h2 => by rw [hgn, hgx, hgf]; exact specGraphOfTree_any K4 J4 k4 j4 kc4 jc4 L4 R4 N4 w' h1 h2 (by omega) (by omega)
        have HSspec : ∀ w', RI w' K4 k4 L4 → RI w' J4 j4 R4 → Calls Tryz.prog 51 #[.agg #[.slice K4 k4 kc4, .slice J4 j4 jc4]] w' (GivesI ts w') := fun w' h1 h2 => by rw [hts]; exact specTreeSeparators_any K4 J4 k4 j4 kc4 jc4 L4 R4 w' h1 h2 (by omega) (by omega)
        have HIspec : ∀ w', RI w' K4 k4 L4 → RI w' J4 j4 R4 → Calls Tryz.prog 53 #[.agg #[.slice K4 k4 kc4, .slice J4 j4 jc4]] w' (fun e w'' => e = .returned (.bool it) ∧ Below w'.heap.size w' w'') := fun w' h1 h2 => by rw [hit]; exact specIsTree_any K4 J4 k4 j4 kc4 jc4 L4 R4 w' h1 h2 (by omega) (by omega)
        have HFspec : ∀ w', RI w' K4 k4 L4 → RI w' J4 j4 R4 → Calls Tryz.prog 55 #[.agg #[.slice K4 k4 kc4, .slice J4 j4 jc4]] w' (fun e w'' => e = .returned (.string ft) ∧ Below w'.heap.size w' w'') := fun w' h1 h2 => by rw [hft]; exact specFormatTree_any K4 J4 k4 j4 kc4 jc4 L4 R4 w' h1 h2 (by omega) (by omega)
        clear hgn hgx hgf hts hit hft
        go_wp2_with fail
        refine (HGimpl _ hK4 hJ4).mono ?_
        rintro e w30 ⟨A30, c30, rfl, hO30, hb30⟩
        have hU30 : Up w29 w30 := Up.then_ (by go_grown) hb30
        replace hB := hB.up hU30
        replace hP1 := hP1.up hU30
        replace hG1 := hG1.up hU30
        replace hP2 := hP2.up hU30
        replace hG2 := hG2.up hU30
        replace hP3 := hP3.up hU30
        replace hK3 := hK3.up hU30
        replace hJ3 := hJ3.up hU30
        replace hG3 := hG3.up hU30
        replace hT3 := hT3.up hU30
        replace hK4 := hK4.up hU30
        replace hJ4 := hJ4.up hU30
        replace hT4 := hT4.up hU30
        replace yhT4 := hT4.two
        replace lhT4 := hT4.lt
        have hw30 := Up.then_ hw29 hU30
        replace hO30 := hO30.ri
        have hU31 : Up w30 (w30.alloc (.cells #[.int .i64 gn, .slice A30 gx.length c30] 29)) := by go_grown
        have hG5 := Blk.new w30 29 #[.int .i64 gn, .slice A30 gx.length c30]
        have hw31 := Up.then_ hw30 hU31
        replace hP1 := hP1.up hU31
        replace hG1 := hG1.up hU31
        replace hP2 := hP2.up hU31
        replace hG2 := hG2.up hU31
        replace hP3 := hP3.up hU31
        replace hK3 := hK3.up hU31
        replace hJ3 := hJ3.up hU31
        replace hG3 := hG3.up hU31
        replace hT3 := hT3.up hU31
        replace hK4 := hK4.up hU31
        replace hJ4 := hJ4.up hU31
        replace hT4 := hT4.up hU31
        replace hO30 := hO30.up hU31
        replace hB := hB.up hU31
        obtain ⟨g31, hg31⟩ : ∃ g31, g31 = w30.heap.size := ⟨_, rfl⟩
        rw [← hg31] at hG5
        go_wp2_with fail
        rw [← hg31]
        generalize w30.alloc (.cells #[.int .i64 gn, .slice A30 gx.length c30] 29) = w31 at hG5 hP1 hG1 hP2 hG2 hP3 hK3 hJ3 hG3 hT3 hK4 hJ4 hT4 hO30 hB hw31 ⊢
        clear hg31 hU31
        have yhT4 := hT4.two
        have lhT4 := hT4.lt
        clear hU30 hb30 hw29 hw30 HGimpl
        go_wp2_with fail
        refine (HGspec _ hK4 hJ4).mono ?_
        rintro e w32 ⟨A32, c32, rfl, hO32, hb32⟩
        have hU32 : Up w31 w32 := Up.then_ (by go_grown) hb32
        replace hB := hB.up hU32
        replace hP1 := hP1.up hU32
        replace hG1 := hG1.up hU32
        replace hP2 := hP2.up hU32
        replace hG2 := hG2.up hU32
        replace hP3 := hP3.up hU32
        replace hK3 := hK3.up hU32
        replace hJ3 := hJ3.up hU32
        replace hG3 := hG3.up hU32
        replace hT3 := hT3.up hU32
        replace hK4 := hK4.up hU32
        replace hJ4 := hJ4.up hU32
        replace hT4 := hT4.up hU32
        replace hO30 := hO30.up hU32
        replace hG5 := hG5.up hU32
        replace yhT4 := hT4.two
        replace lhT4 := hT4.lt
        have hw32 := Up.then_ hw31 hU32
        replace hO32 := hO32.ri
        have hU33 : Up w32 (w32.alloc (.cells #[.int .i64 gn, .slice A32 gx.length c32] 29)) := by go_grown
        have hG6 := Blk.new w32 29 #[.int .i64 gn, .slice A32 gx.length c32]
        have hw33 := Up.then_ hw32 hU33
        replace hP1 := hP1.up hU33
        replace hG1 := hG1.up hU33
        replace hP2 := hP2.up hU33
        replace hG2 := hG2.up hU33
        replace hP3 := hP3.up hU33
        replace hK3 := hK3.up hU33
        replace hJ3 := hJ3.up hU33
        replace hG3 := hG3.up hU33
        replace hT3 := hT3.up hU33
        replace hK4 := hK4.up hU33
        replace hJ4 := hJ4.up hU33
        replace hT4 := hT4.up hU33
        replace hO30 := hO30.up hU33
        replace hB := hB.up hU33
        replace hG5 := hG5.up hU33
        replace hO32 := hO32.up hU33
        obtain ⟨g33, hg33⟩ : ∃ g33, g33 = w32.heap.size := ⟨_, rfl⟩
        rw [← hg33] at hG6
        go_wp2_with fail
        rw [← hg33]
        generalize w32.alloc (.cells #[.int .i64 gn, .slice A32 gx.length c32] 29) = w33 at hG6 hP1 hG1 hP2 hG2 hP3 hK3 hJ3 hG3 hT3 hK4 hJ4 hT4 hO30 hB hG5 hO32 hw33 ⊢
        have hlow33 : ∀ ad, B = some ad → ad.block < w33.heap.size := fun ad e => by have := hlow ad e; have := hw33.size; omega
        clear hg33 hU33
        clear hU32 hb32 hw31 hw32 HGspec
        refine (drawEqualTrees_any B n c bs _ hB hs hlow33).mono ?_
        rintro e w34 ⟨K7, k7, kc7, J7, j7, jc7, L7, R7, K8, k8, kc8, J8, j8, jc8, L8, R8, rfl, hK7, hJ7, hK8, hJ8, hk7, hj7, hk8, hj8, hb34⟩
        have hU34 : Up w33 w34 := hb34
        replace hB := hB.up hU34
        replace hP1 := hP1.up hU34
        replace hG1 := hG1.up hU34
        replace hP2 := hP2.up hU34
        replace hG2 := hG2.up hU34
        replace hP3 := hP3.up hU34
        replace hK3 := hK3.up hU34
        replace hJ3 := hJ3.up hU34
        replace hG3 := hG3.up hU34
        replace hT3 := hT3.up hU34
        replace hK4 := hK4.up hU34
        replace hJ4 := hJ4.up hU34
        replace hT4 := hT4.up hU34
        replace hO30 := hO30.up hU34
        replace hG5 := hG5.up hU34
        replace hO32 := hO32.up hU34
        replace hG6 := hG6.up hU34
        have hw34 := Up.then_ hw33 hU34
        clear hU34 hb34 hw33 hlow33 hB
        have hU35 : Up w34 ((w34.alloc (.cells #[.slice K7 k7 kc7, .slice J7 j7 jc7] 49)).alloc (.cells #[.slice K8 k8 kc8, .slice J8 j8 jc8] 49)) := by go_grown
        have hT7 := (Blk.new w34 49 #[.slice K7 k7 kc7, .slice J7 j7 jc7]).alloc (.cells #[.slice K8 k8 kc8, .slice J8 j8 jc8] 49)
        have hT8 : Blk ((w34.alloc (.cells #[.slice K7 k7 kc7, .slice J7 j7 jc7] 49)).alloc (.cells #[.slice K8 k8 kc8, .slice J8 j8 jc8] 49)) (w34.heap.size + 1) 49 #[.slice K8 k8 kc8, .slice J8 j8 jc8] := Blk.new_at (by simp)
        have hw35 := Up.then_ hw34 hU35
        replace hP1 := hP1.up hU35
        replace hG1 := hG1.up hU35
        replace hP2 := hP2.up hU35
        replace hG2 := hG2.up hU35
        replace hP3 := hP3.up hU35
        replace hK3 := hK3.up hU35
        replace hJ3 := hJ3.up hU35
        replace hG3 := hG3.up hU35
        replace hT3 := hT3.up hU35
        replace hK4 := hK4.up hU35
        replace hJ4 := hJ4.up hU35
        replace hT4 := hT4.up hU35
        replace hO30 := hO30.up hU35
        replace hG5 := hG5.up hU35
        replace hO32 := hO32.up hU35
        replace hG6 := hG6.up hU35
        replace hK7 := hK7.up hU35
        replace hJ7 := hJ7.up hU35
        replace hK8 := hK8.up hU35
        replace hJ8 := hJ8.up hU35
        obtain ⟨g36, hg36⟩ : ∃ g36, g36 = w34.heap.size + 1 := ⟨_, rfl⟩
        obtain ⟨g35, hg35⟩ : ∃ g35, g35 = w34.heap.size := ⟨_, rfl⟩
        rw [← hg36] at hT8
        rw [← hg35] at hT7
        go_wp2_with fail
        rw [← hg36]
        rw [← hg35]
        generalize (w34.alloc (.cells #[.slice K7 k7 kc7, .slice J7 j7 jc7] 49)).alloc (.cells #[.slice K8 k8 kc8, .slice J8 j8 jc8] 49) = w35 at hT7 hT8 hP1 hG1 hP2 hG2 hP3 hK3 hJ3 hG3 hT3 hK4 hJ4 hT4 hO30 hG5 hO32 hG6 hK7 hJ7 hK8 hJ8 hw35 ⊢
        clear hg35 hg36 hU35 hw34
        have yhG1 := hG1.two
        have lhG1 := hG1.lt
        have yhG2 := hG2.two
        have lhG2 := hG2.lt
        have yhG3 := hG3.two
        have lhG3 := hG3.lt
        have yhT3 := hT3.two
        have lhT3 := hT3.lt
        have yhT4 := hT4.two
        have lhT4 := hT4.lt
        have yhG5 := hG5.two
        have lhG5 := hG5.lt
        have yhG6 := hG6.two
        have lhG6 := hG6.lt
        have yhT7 := hT7.two
        have lhT7 := hT7.lt
        have yhT8 := hT8.two
        have lhT8 := hT8.lt
        obtain ⟨s1, hs1⟩ : ∃ s1, s1 = ints (sepsOf N1 X1) := ⟨_, rfl⟩
        have hs1l : s1.length ≤ 1048576 := by rw [hs1]; exact seps_len7 hle1
        obtain ⟨ms, hms⟩ : ∃ ms, ms = isMinSep N2 X2 z2 := ⟨_, rfl⟩
        obtain ⟨et, het⟩ : ∃ et, et = (decide (L7 = L8) && decide (R7 = R8)) := ⟨_, rfl⟩
        have HAimpl : ∀ w', RI w' P1 m1 X1 → Calls Tryz.prog 40 #[.agg #[.int .i64 N1, .slice P1 m1 d1]] w' (GivesI s1 w') := fun w' h => by rw [hs1]; exact implSeparatorsOf_any N1 P1 m1 d1 X1 w' h (by omega)
        have HMimpl : ∀ w', RI w' P2 m2 X2 → Calls Tryz.prog 48 #[.agg #[.int .i64 N2, .slice P2 m2 d2], .int .i64 z2] w' (fun e w'' => e = .returned (.bool ms) ∧ Below w'.heap.size w' w'') := fun w' h => by rw [hms]; exact implIsMinimalSeparator_any N2 P2 m2 d2 X2 z2 w' h (by omega)
        have HQimpl : ∀ w', RI w' K7 k7 L7 → RI w' J7 j7 R7 → RI w' K8 k8 L8 → RI w' J8 j8 R8 → Calls Tryz.prog 56 #[.agg #[.slice K7 k7 kc7, .slice J7 j7 jc7], .agg #[.slice K8 k8 kc8, .slice J8 j8 jc8]] w' (fun e w'' => e = .returned (.bool et) ∧ Below w'.heap.size w' w'') := fun w' h1 h2 h3 h4 => by rw [het]; exact implEqualTrees_any K7 J7 K8 J8 k7 j7 k8 j8 kc7 jc7 kc8 jc8 L7 R7 L8 R8 w' h1 h2 h3 h4 (by omega) (by omega)
        have HAspec : ∀ w', RI w' P1 m1 X1 → Calls Tryz.prog 47 #[.agg #[.int .i64 N1, .slice P1 m1 d1]] w' (GivesI s1 w') := fun w' h => by rw [hs1]; exact specSeparatorsOf_any N1 P1 m1 d1 X1 w' h (by omega)
        have HMspec : ∀ w', RI w' P2 m2 X2 → Calls Tryz.prog 49 #[.agg #[.int .i64 N2, .slice P2 m2 d2], .int .i64 z2] w' (fun e w'' => e = .returned (.bool ms) ∧ Below w'.heap.size w' w'') := fun w' h => by rw [hms]; exact specIsMinimalSeparator_any N2 P2 m2 d2 X2 z2 w' h (by omega)
        have HQspec : ∀ w', RI w' K7 k7 L7 → RI w' J7 j7 R7 → RI w' K8 k8 L8 → RI w' J8 j8 R8 → Calls Tryz.prog 35 #[.agg #[.slice K7 k7 kc7, .slice J7 j7 jc7], .agg #[.slice K8 k8 kc8, .slice J8 j8 jc8]] w' (fun e w'' => e = .returned (.bool et) ∧ Below w'.heap.size w' w'') := fun w' h1 h2 h3 h4 => by rw [het]; exact specEqualTrees_any K7 J7 K8 J8 k7 j7 k8 j8 kc7 jc7 kc8 jc8 L7 R7 L8 R8 w' h1 h2 h3 h4 (by omega) (by omega)
        have hEQ : sameGraph gn gn gx gx = true := by rw [sameGraph_yes]; exact decide_eq_true rfl
        have HE : ∀ w', RI w' A30 gx.length gx → RI w' A32 gx.length gx → Calls Tryz.prog 13 #[.agg #[.int .i64 gn, .slice A30 gx.length c30], .agg #[.int .i64 gn, .slice A32 gx.length c32]] w' (fun e w'' => e = .returned (.bool true) ∧ Below w'.heap.size w' w'') := fun w' h1 h2 => by rw [← hEQ]; exact specEqualGraphs_any gn gn A30 A32 gx.length gx.length c30 c32 gx gx w' h1 h2 (by omega)
        clear hs1 hms het hEQ hle1 hlow
        replace HAimpl := Lib.hid HAimpl
        replace HAspec := Lib.hid HAspec
        replace HMimpl := Lib.hid HMimpl
        replace HMspec := Lib.hid HMspec
        replace HKs := Lib.hid HKs
        replace HE := Lib.hid HE
        replace HSimpl := Lib.hid HSimpl
        replace HSspec := Lib.hid HSspec
        replace HIimpl := Lib.hid HIimpl
        replace HIspec := Lib.hid HIspec
        replace HFimpl := Lib.hid HFimpl
        replace HFspec := Lib.hid HFspec
        replace HQimpl := Lib.hid HQimpl
        replace HQspec := Lib.hid HQspec
        cases yes
        case' false =>
          clear HKc
          go_wp2_with fail
          simp only [List.append_eq, List.cons_append, List.nil_append]
          have hV0 : Up w35 w35.drew := (Up.refl _).drew
          refine wp_region_held_drew (S := (fun w' => Up w35 w' ∧ (∀ b o, b < w35.heap.size → w'.cell? ⟨b, o, none⟩ = w35.cell? ⟨b, o, none⟩))) (by kernel_rfl) (by exact ⟨hV0, fun _ _ hb => hV0.cell hb⟩) (fun hHeld => ?_)
          refine wpAnyH_take (i := 0) (v := ?_) rfl (by kernel_rfl) (by kernel_rfl) (by kernel_rfl) (fun _ _ _ h => h) (Or.inl ⟨by rfl, ?_⟩) (by assumption) ?_
          rotate_left
          · (intro w' hSw; go_simp; try with_reducible rfl)
          (try simp only [List.getElem_toArray]); (try simp only [List.getElem_cons_succ]); (try simp only [List.getElem_cons_zero]); (try simp only [Act.put]); (try simp only [List.setIfInBounds_toArray]); (try simp only [List.set_cons_succ]); (try simp only [List.set_cons_zero])
          refine wpAnyH_take (i := 2) (v := ?_) rfl (by kernel_rfl) (by kernel_rfl) (by kernel_rfl) (fun _ _ _ h => h) (Or.inl ⟨by rfl, ?_⟩) (by assumption) ?_
          rotate_left
          · (intro w' hSw; go_simp; try with_reducible rfl)
          (try simp only [List.getElem_toArray]); (try simp only [List.getElem_cons_succ]); (try simp only [List.getElem_cons_zero]); (try simp only [Act.put]); (try simp only [List.setIfInBounds_toArray]); (try simp only [List.set_cons_succ]); (try simp only [List.set_cons_zero])
          refine wpAnyH_ready (rs := [1]) (by kernel_rfl) (by simp) ?_
          refine AllReadyH.cons rfl (fun K hK => ?_) AllReadyH.nil
          go_simp
          go_at_call 40
          refine (HAimpl.out _ (hP1.up hV0)).mono ?_
          rintro e w600 ⟨As, cs, rfl, hOs, hb600⟩
          have hV1 := Up.then_ hV0 hb600
          go_wp2_with fail
          refine hK.out _ _ (by exact ⟨hV1, fun _ _ hb => hV1.cell hb⟩) (fun hHeld1 => ?_)
          clear hK K
          (try simp only [List.getElem_toArray]); (try simp only [List.getElem_cons_succ]); (try simp only [List.getElem_cons_zero]); (try simp only [Act.put]); (try simp only [List.setIfInBounds_toArray]); (try simp only [List.set_cons_succ]); (try simp only [List.set_cons_zero])
          refine wpAnyH_ready (rs := [3]) (by kernel_rfl) (by simp) ?_
          refine AllReadyH.cons rfl (fun K hK => ?_) AllReadyH.nil
          go_simp
          go_at_call 47
          refine (HAspec.out _ (hP1.up hV1)).mono ?_
          rintro e w601 ⟨Bs, ds, rfl, hOt, hb601⟩
          have hV2 := Up.then_ hV1 hb601
          go_wp2_with fail
          refine hK.out _ _ (by exact ⟨hV2, fun _ _ hb => hV2.cell hb⟩) (fun hHeld2 => ?_)
          clear hK K
          (try simp only [List.getElem_toArray]); (try simp only [List.getElem_cons_succ]); (try simp only [List.getElem_cons_zero]); (try simp only [Act.put]); (try simp only [List.setIfInBounds_toArray]); (try simp only [List.set_cons_succ]); (try simp only [List.set_cons_zero])
          refine wpAnyH_ready (rs := [4]) (by kernel_rfl) (by simp) ?_
          refine AllReadyH.cons rfl (fun K hK => ?_) AllReadyH.nil
          go_simp
          go_at_call 14
          refine (sameInts_up (hOs.ri.up hb601) hOt.ri hs1l).mono ?_
          rintro e w602 ⟨rfl, hb602⟩
          have hV3 := Up.then_ hV2 hb602
          go_wp2_with fail
          refine hK.out _ _ (by exact ⟨hV3, fun _ _ hb => hV3.cell hb⟩) (fun hHeld3 => ?_)
          clear hK K
          (try simp only [List.getElem_toArray]); (try simp only [List.getElem_cons_succ]); (try simp only [List.getElem_cons_zero]); (try simp only [Act.put]); (try simp only [List.setIfInBounds_toArray]); (try simp only [List.set_cons_succ]); (try simp only [List.set_cons_zero])
          refine wpAnyH_take (i := 5) (v := ?_) rfl (by kernel_rfl) (by kernel_rfl) (by kernel_rfl) (fun _ _ _ h => h) (Or.inl ⟨by rfl, ?_⟩) (by assumption) ?_
          rotate_left
          · (intro w' hSw; go_simp; try with_reducible rfl)
          (try simp only [List.getElem_toArray]); (try simp only [List.getElem_cons_succ]); (try simp only [List.getElem_cons_zero]); (try simp only [Act.put]); (try simp only [List.setIfInBounds_toArray]); (try simp only [List.set_cons_succ]); (try simp only [List.set_cons_zero])
          refine wpAnyH_take (i := 6) (v := ?_) rfl (by kernel_rfl) (by kernel_rfl) (by kernel_rfl) (fun _ _ _ h => h) (Or.inl ⟨by rfl, ?_⟩) (by assumption) ?_
          rotate_left
          · (intro w' hSw; go_simp; try with_reducible rfl)
          (try simp only [List.getElem_toArray]); (try simp only [List.getElem_cons_succ]); (try simp only [List.getElem_cons_zero]); (try simp only [Act.put]); (try simp only [List.setIfInBounds_toArray]); (try simp only [List.set_cons_succ]); (try simp only [List.set_cons_zero])
          refine wpAnyH_take (i := 7) (v := ?_) rfl (by kernel_rfl) (by kernel_rfl) (by kernel_rfl) (fun _ _ _ h => h) (Or.inl ⟨by rfl, ?_⟩) (by assumption) ?_
          rotate_left
          · (intro w' hSw; go_simp; try with_reducible rfl)
          (try simp only [List.getElem_toArray]); (try simp only [List.getElem_cons_succ]); (try simp only [List.getElem_cons_zero]); (try simp only [Act.put]); (try simp only [List.setIfInBounds_toArray]); (try simp only [List.set_cons_succ]); (try simp only [List.set_cons_zero])
          refine wpAnyH_take (i := 9) (v := ?_) rfl (by kernel_rfl) (by kernel_rfl) (by kernel_rfl) (fun _ _ _ h => h) (Or.inl ⟨by rfl, ?_⟩) (by assumption) ?_
          rotate_left
          · (intro w' hSw; go_simp; try with_reducible rfl)
          (try simp only [List.getElem_toArray]); (try simp only [List.getElem_cons_succ]); (try simp only [List.getElem_cons_zero]); (try simp only [Act.put]); (try simp only [List.setIfInBounds_toArray]); (try simp only [List.set_cons_succ]); (try simp only [List.set_cons_zero])
          refine wpAnyH_take (i := 10) (v := ?_) rfl (by kernel_rfl) (by kernel_rfl) (by kernel_rfl) (fun _ _ _ h => h) (Or.inl ⟨by rfl, ?_⟩) (by assumption) ?_
          rotate_left
          · (intro w' hSw; go_simp; try with_reducible rfl)
          (try simp only [List.getElem_toArray]); (try simp only [List.getElem_cons_succ]); (try simp only [List.getElem_cons_zero]); (try simp only [Act.put]); (try simp only [List.setIfInBounds_toArray]); (try simp only [List.set_cons_succ]); (try simp only [List.set_cons_zero])
          refine wpAnyH_ready (rs := [8]) (by kernel_rfl) (by simp) ?_
          refine AllReadyH.cons rfl (fun K hK => ?_) AllReadyH.nil
          go_simp
          go_at_call 48
          refine (HMimpl.out _ (hP2.up hV3)).mono ?_
          rintro e w603 ⟨rfl, hb603⟩
          have hV4 := Up.then_ hV3 hb603
          go_wp2_with fail
          refine hK.out _ _ (by exact ⟨hV4, fun _ _ hb => hV4.cell hb⟩) (fun hHeld4 => ?_)
          clear hK K
          (try simp only [List.getElem_toArray]); (try simp only [List.getElem_cons_succ]); (try simp only [List.getElem_cons_zero]); (try simp only [Act.put]); (try simp only [List.setIfInBounds_toArray]); (try simp only [List.set_cons_succ]); (try simp only [List.set_cons_zero])
          refine wpAnyH_ready (rs := [11]) (by kernel_rfl) (by simp) ?_
          refine AllReadyH.cons rfl (fun K hK => ?_) AllReadyH.nil
          go_simp
          go_at_call 49
          refine (HMspec.out _ (hP2.up hV4)).mono ?_
          rintro e w604 ⟨rfl, hb604⟩
          have hV5 := Up.then_ hV4 hb604
          go_wp2_with fail
          refine hK.out _ _ (by exact ⟨hV5, fun _ _ hb => hV5.cell hb⟩) (fun hHeld5 => ?_)
          clear hK K
          (try simp only [List.getElem_toArray]); (try simp only [List.getElem_cons_succ]); (try simp only [List.getElem_cons_zero]); (try simp only [Act.put]); (try simp only [List.setIfInBounds_toArray]); (try simp only [List.set_cons_succ]); (try simp only [List.set_cons_zero])
          refine wpAnyH_take (i := 12) (v := ?_) rfl (by kernel_rfl) (by kernel_rfl) (by kernel_rfl) (fun _ _ _ h => h) (Or.inl ⟨by rfl, ?_⟩) (by assumption) ?_
          rotate_left
          · (intro w' hSw; go_simp; try with_reducible rfl)
          (try simp only [List.getElem_toArray]); (try simp only [List.getElem_cons_succ]); (try simp only [List.getElem_cons_zero]); (try simp only [Act.put]); (try simp only [List.setIfInBounds_toArray]); (try simp only [List.set_cons_succ]); (try simp only [List.set_cons_zero])
          refine wpAnyH_take (i := 13) (v := ?_) rfl (by kernel_rfl) (by kernel_rfl) (by kernel_rfl) (fun _ _ _ h => h) (Or.inl ⟨by rfl, ?_⟩) (by assumption) ?_
          rotate_left
          · (intro w' hSw; go_simp; try with_reducible rfl)
          (try simp only [List.getElem_toArray]); (try simp only [List.getElem_cons_succ]); (try simp only [List.getElem_cons_zero]); (try simp only [Act.put]); (try simp only [List.setIfInBounds_toArray]); (try simp only [List.set_cons_succ]); (try simp only [List.set_cons_zero])
          refine wpAnyH_take (i := 14) (v := ?_) rfl (by kernel_rfl) (by kernel_rfl) (by kernel_rfl) (fun _ _ _ h => h) (Or.inl ⟨by rfl, ?_⟩) (by assumption) ?_
          rotate_left
          · (intro w' hSw; go_simp; try with_reducible rfl)
          (try simp only [List.getElem_toArray]); (try simp only [List.getElem_cons_succ]); (try simp only [List.getElem_cons_zero]); (try simp only [Act.put]); (try simp only [List.setIfInBounds_toArray]); (try simp only [List.set_cons_succ]); (try simp only [List.set_cons_zero])
          refine wpAnyH_take (i := 15) (v := ?_) rfl (by kernel_rfl) (by kernel_rfl) (by kernel_rfl) (fun _ _ _ h => h) (Or.inl ⟨by rfl, ?_⟩) (by assumption) ?_
          rotate_left
          · (intro w' hSw; go_simp; try with_reducible rfl)
          (try simp only [List.getElem_toArray]); (try simp only [List.getElem_cons_succ]); (try simp only [List.getElem_cons_zero]); (try simp only [Act.put]); (try simp only [List.setIfInBounds_toArray]); (try simp only [List.set_cons_succ]); (try simp only [List.set_cons_zero])
          refine wpAnyH_take (i := 16) (v := ?_) rfl (by kernel_rfl) (by kernel_rfl) (by kernel_rfl) (fun _ _ _ h => h) (Or.inl ⟨by rfl, ?_⟩) (by assumption) ?_
          rotate_left
          · (intro w' hSw; go_simp; try with_reducible rfl)
          (try simp only [List.getElem_toArray]); (try simp only [List.getElem_cons_succ]); (try simp only [List.getElem_cons_zero]); (try simp only [Act.put]); (try simp only [List.setIfInBounds_toArray]); (try simp only [List.set_cons_succ]); (try simp only [List.set_cons_zero])
          refine wpAnyH_take (i := 17) (v := ?_) rfl (by kernel_rfl) (by kernel_rfl) (by kernel_rfl) (fun _ _ _ h => h) (Or.inl ⟨by rfl, ?_⟩) (by assumption) ?_
          rotate_left
          · (intro w' hSw; go_simp; try with_reducible rfl)
          (try simp only [List.getElem_toArray]); (try simp only [List.getElem_cons_succ]); (try simp only [List.getElem_cons_zero]); (try simp only [Act.put]); (try simp only [List.setIfInBounds_toArray]); (try simp only [List.set_cons_succ]); (try simp only [List.set_cons_zero])
          refine wpAnyH_ready (rs := [18]) (by kernel_rfl) (by simp) ?_
          refine AllReadyH.cons rfl (fun K hK => ?_) AllReadyH.nil
          go_simp
          go_at_call 50
          refine (HKs.out _ (hP3.up hV5) (hK3.up hV5) (hJ3.up hV5)).mono ?_
          rintro e w605 ⟨rfl, hb605⟩
          have hV6 := Up.then_ hV5 hb605
          go_wp2_with fail
          refine hK.out _ _ (by exact ⟨hV6, fun _ _ hb => hV6.cell hb⟩) (fun hHeld6 => ?_)
          clear hK K
          (try simp only [List.getElem_toArray]); (try simp only [List.getElem_cons_succ]); (try simp only [List.getElem_cons_zero]); (try simp only [Act.put]); (try simp only [List.setIfInBounds_toArray]); (try simp only [List.set_cons_succ]); (try simp only [List.set_cons_zero])
          refine wpAnyH_take (i := 19) (v := ?_) rfl (by kernel_rfl) (by kernel_rfl) (by kernel_rfl) (fun _ _ _ h => h) (Or.inl ⟨by rfl, ?_⟩) (by assumption) ?_
          rotate_left
          · (intro w' hSw; go_simp; try with_reducible rfl)
          (try simp only [List.getElem_toArray]); (try simp only [List.getElem_cons_succ]); (try simp only [List.getElem_cons_zero]); (try simp only [Act.put]); (try simp only [List.setIfInBounds_toArray]); (try simp only [List.set_cons_succ]); (try simp only [List.set_cons_zero])
          refine wpAnyH_take (i := 20) (v := ?_) rfl (by kernel_rfl) (by kernel_rfl) (by kernel_rfl) (fun _ _ _ h => h) (Or.inl ⟨by rfl, ?_⟩) (by assumption) ?_
          rotate_left
          · (intro w' hSw; go_simp; try with_reducible rfl)
          (try simp only [List.getElem_toArray]); (try simp only [List.getElem_cons_succ]); (try simp only [List.getElem_cons_zero]); (try simp only [Act.put]); (try simp only [List.setIfInBounds_toArray]); (try simp only [List.set_cons_succ]); (try simp only [List.set_cons_zero])
          refine wpAnyH_take (i := 21) (v := ?_) rfl (by kernel_rfl) (by kernel_rfl) (by kernel_rfl) (fun _ _ _ h => h) (Or.inl ⟨by rfl, ?_⟩) (by assumption) ?_
          rotate_left
          · (intro w' hSw; go_simp; try with_reducible rfl)
          (try simp only [List.getElem_toArray]); (try simp only [List.getElem_cons_succ]); (try simp only [List.getElem_cons_zero]); (try simp only [Act.put]); (try simp only [List.setIfInBounds_toArray]); (try simp only [List.set_cons_succ]); (try simp only [List.set_cons_zero])
          refine wpAnyH_take (i := 22) (v := ?_) rfl (by kernel_rfl) (by kernel_rfl) (by kernel_rfl) (fun _ _ _ h => h) (Or.inl ⟨by rfl, ?_⟩) (by assumption) ?_
          rotate_left
          · (intro w' hSw; go_simp; try with_reducible rfl)
          (try simp only [List.getElem_toArray]); (try simp only [List.getElem_cons_succ]); (try simp only [List.getElem_cons_zero]); (try simp only [Act.put]); (try simp only [List.setIfInBounds_toArray]); (try simp only [List.set_cons_succ]); (try simp only [List.set_cons_zero])
          refine wpAnyH_take (i := 23) (v := ?_) rfl (by kernel_rfl) (by kernel_rfl) (by kernel_rfl) (fun _ _ _ h => h) (Or.inl ⟨by rfl, ?_⟩) (by assumption) ?_
          rotate_left
          · (intro w' hSw; go_simp; try with_reducible rfl)
          (try simp only [List.getElem_toArray]); (try simp only [List.getElem_cons_succ]); (try simp only [List.getElem_cons_zero]); (try simp only [Act.put]); (try simp only [List.setIfInBounds_toArray]); (try simp only [List.set_cons_succ]); (try simp only [List.set_cons_zero])
          refine wpAnyH_take (i := 24) (v := ?_) rfl (by kernel_rfl) (by kernel_rfl) (by kernel_rfl) (fun _ _ _ h => h) (Or.inl ⟨by rfl, ?_⟩) (by assumption) ?_
          rotate_left
          · (intro w' hSw; go_simp; try with_reducible rfl)
          (try simp only [List.getElem_toArray]); (try simp only [List.getElem_cons_succ]); (try simp only [List.getElem_cons_zero]); (try simp only [Act.put]); (try simp only [List.setIfInBounds_toArray]); (try simp only [List.set_cons_succ]); (try simp only [List.set_cons_zero])
          refine wpAnyH_take (i := 25) (v := undef) rfl (by kernel_rfl) (by kernel_rfl) (by kernel_rfl) (fun _ _ _ h => h) (Or.inr ⟨by rfl, rfl⟩) (by assumption) ?_
          (try simp only [List.getElem_toArray]); (try simp only [List.getElem_cons_succ]); (try simp only [List.getElem_cons_zero]); (try simp only [Act.put]); (try simp only [List.setIfInBounds_toArray]); (try simp only [List.set_cons_succ]); (try simp only [List.set_cons_zero])
          refine wpAnyH_take (i := 26) (v := undef) rfl (by kernel_rfl) (by kernel_rfl) (by kernel_rfl) (fun _ _ _ h => h) (Or.inr ⟨by rfl, rfl⟩) (by assumption) ?_
          (try simp only [List.getElem_toArray]); (try simp only [List.getElem_cons_succ]); (try simp only [List.getElem_cons_zero]); (try simp only [Act.put]); (try simp only [List.setIfInBounds_toArray]); (try simp only [List.set_cons_succ]); (try simp only [List.set_cons_zero])
          refine wpAnyH_take (i := 27) (v := ?_) rfl (by kernel_rfl) (by kernel_rfl) (by kernel_rfl) (fun _ _ _ h => h) (Or.inl ⟨by rfl, ?_⟩) (by assumption) ?_
          rotate_left
          · (intro w' hSw; go_simp; try with_reducible rfl)
          (try simp only [List.getElem_toArray]); (try simp only [List.getElem_cons_succ]); (try simp only [List.getElem_cons_zero]); (try simp only [Act.put]); (try simp only [List.setIfInBounds_toArray]); (try simp only [List.set_cons_succ]); (try simp only [List.set_cons_zero])
          refine wpAnyH_take (i := 28) (v := ?_) rfl (by kernel_rfl) (by kernel_rfl) (by kernel_rfl) (fun _ _ _ h => h) (Or.inl ⟨by rfl, ?_⟩) (by assumption) ?_
          rotate_left
          · (intro w' hSw; go_simp; try with_reducible rfl)
          (try simp only [List.getElem_toArray]); (try simp only [List.getElem_cons_succ]); (try simp only [List.getElem_cons_zero]); (try simp only [Act.put]); (try simp only [List.setIfInBounds_toArray]); (try simp only [List.set_cons_succ]); (try simp only [List.set_cons_zero])
          refine wpAnyH_take (i := 29) (v := ?_) rfl (by kernel_rfl) (by kernel_rfl) (by kernel_rfl) (fun _ _ _ h => h) (Or.inl ⟨by rfl, ?_⟩) (by assumption) ?_
          rotate_left
          · (intro w' hSw; go_simp; try with_reducible rfl)
          (try simp only [List.getElem_toArray]); (try simp only [List.getElem_cons_succ]); (try simp only [List.getElem_cons_zero]); (try simp only [Act.put]); (try simp only [List.setIfInBounds_toArray]); (try simp only [List.set_cons_succ]); (try simp only [List.set_cons_zero])
          refine wpAnyH_take (i := 30) (v := ?_) rfl (by kernel_rfl) (by kernel_rfl) (by kernel_rfl) (fun _ _ _ h => h) (Or.inl ⟨by rfl, ?_⟩) (by assumption) ?_
          rotate_left
          · (intro w' hSw; go_simp; try with_reducible rfl)
          (try simp only [List.getElem_toArray]); (try simp only [List.getElem_cons_succ]); (try simp only [List.getElem_cons_zero]); (try simp only [Act.put]); (try simp only [List.setIfInBounds_toArray]); (try simp only [List.set_cons_succ]); (try simp only [List.set_cons_zero])
          refine wpAnyH_take (i := 31) (v := ?_) rfl (by kernel_rfl) (by kernel_rfl) (by kernel_rfl) (fun _ _ _ h => h) (Or.inl ⟨by rfl, ?_⟩) (by assumption) ?_
          rotate_left
          · (intro w' hSw; go_simp; try with_reducible rfl)
          (try simp only [List.getElem_toArray]); (try simp only [List.getElem_cons_succ]); (try simp only [List.getElem_cons_zero]); (try simp only [Act.put]); (try simp only [List.setIfInBounds_toArray]); (try simp only [List.set_cons_succ]); (try simp only [List.set_cons_zero])
          refine wpAnyH_take (i := 32) (v := ?_) rfl (by kernel_rfl) (by kernel_rfl) (by kernel_rfl) (fun _ _ _ h => h) (Or.inl ⟨by rfl, ?_⟩) (by assumption) ?_
          rotate_left
          · (intro w' hSw; go_simp; try with_reducible rfl)
          (try simp only [List.getElem_toArray]); (try simp only [List.getElem_cons_succ]); (try simp only [List.getElem_cons_zero]); (try simp only [Act.put]); (try simp only [List.setIfInBounds_toArray]); (try simp only [List.set_cons_succ]); (try simp only [List.set_cons_zero])
          refine wpAnyH_take (i := 33) (v := ?_) rfl (by kernel_rfl) (by kernel_rfl) (by kernel_rfl) (fun _ _ _ h => h) (Or.inl ⟨by rfl, ?_⟩) (by assumption) ?_
          rotate_left
          · (intro w' hSw; go_simp; try with_reducible rfl)
          (try simp only [List.getElem_toArray]); (try simp only [List.getElem_cons_succ]); (try simp only [List.getElem_cons_zero]); (try simp only [Act.put]); (try simp only [List.setIfInBounds_toArray]); (try simp only [List.set_cons_succ]); (try simp only [List.set_cons_zero])
          refine wpAnyH_take (i := 34) (v := ?_) rfl (by kernel_rfl) (by kernel_rfl) (by kernel_rfl) (fun _ _ _ h => h) (Or.inl ⟨by rfl, ?_⟩) (by assumption) ?_
          rotate_left
          · (intro w' hSw; go_simp; try with_reducible rfl)
          (try simp only [List.getElem_toArray]); (try simp only [List.getElem_cons_succ]); (try simp only [List.getElem_cons_zero]); (try simp only [Act.put]); (try simp only [List.setIfInBounds_toArray]); (try simp only [List.set_cons_succ]); (try simp only [List.set_cons_zero])
          refine wpAnyH_take (i := 35) (v := ?_) rfl (by kernel_rfl) (by kernel_rfl) (by kernel_rfl) (fun _ _ _ h => h) (Or.inl ⟨by rfl, ?_⟩) (by assumption) ?_
          rotate_left
          · (intro w' hSw; go_simp; try with_reducible rfl)
          (try simp only [List.getElem_toArray]); (try simp only [List.getElem_cons_succ]); (try simp only [List.getElem_cons_zero]); (try simp only [Act.put]); (try simp only [List.setIfInBounds_toArray]); (try simp only [List.set_cons_succ]); (try simp only [List.set_cons_zero])
          refine wpAnyH_take (i := 36) (v := ?_) rfl (by kernel_rfl) (by kernel_rfl) (by kernel_rfl) (fun _ _ _ h => h) (Or.inl ⟨by rfl, ?_⟩) (by assumption) ?_
          rotate_left
          · (intro w' hSw; go_simp; try with_reducible rfl)
          (try simp only [List.getElem_toArray]); (try simp only [List.getElem_cons_succ]); (try simp only [List.getElem_cons_zero]); (try simp only [Act.put]); (try simp only [List.setIfInBounds_toArray]); (try simp only [List.set_cons_succ]); (try simp only [List.set_cons_zero])
          refine wpAnyH_ready (rs := [37]) (by kernel_rfl) (by simp) ?_
          refine AllReadyH.cons rfl (fun K hK => ?_) AllReadyH.nil
          go_simp
          go_at_call 13
          refine (HE.out _ (hO30.up hV6) (hO32.up hV6)).mono ?_
          rintro e w606 ⟨rfl, hb606⟩
          have hV7 := Up.then_ hV6 hb606
          go_wp2_with fail
          refine hK.out _ _ (by exact ⟨hV7, fun _ _ hb => hV7.cell hb⟩) (fun hHeld7 => ?_)
          clear hK K
          (try simp only [List.getElem_toArray]); (try simp only [List.getElem_cons_succ]); (try simp only [List.getElem_cons_zero]); (try simp only [Act.put]); (try simp only [List.setIfInBounds_toArray]); (try simp only [List.set_cons_succ]); (try simp only [List.set_cons_zero])
          refine wpAnyH_take (i := 38) (v := ?_) rfl (by kernel_rfl) (by kernel_rfl) (by kernel_rfl) (fun _ _ _ h => h) (Or.inl ⟨by rfl, ?_⟩) (by assumption) ?_
          rotate_left
          · (intro w' hSw; go_simp; try with_reducible rfl)
          (try simp only [List.getElem_toArray]); (try simp only [List.getElem_cons_succ]); (try simp only [List.getElem_cons_zero]); (try simp only [Act.put]); (try simp only [List.setIfInBounds_toArray]); (try simp only [List.set_cons_succ]); (try simp only [List.set_cons_zero])
          refine wpAnyH_take (i := 39) (v := ?_) rfl (by kernel_rfl) (by kernel_rfl) (by kernel_rfl) (fun _ _ _ h => h) (Or.inl ⟨by rfl, ?_⟩) (by assumption) ?_
          rotate_left
          · (intro w' hSw; go_simp; try with_reducible rfl)
          (try simp only [List.getElem_toArray]); (try simp only [List.getElem_cons_succ]); (try simp only [List.getElem_cons_zero]); (try simp only [Act.put]); (try simp only [List.setIfInBounds_toArray]); (try simp only [List.set_cons_succ]); (try simp only [List.set_cons_zero])
          refine wpAnyH_take (i := 40) (v := ?_) rfl (by kernel_rfl) (by kernel_rfl) (by kernel_rfl) (fun _ _ _ h => h) (Or.inl ⟨by rfl, ?_⟩) (by assumption) ?_
          rotate_left
          · (intro w' hSw; go_simp; try with_reducible rfl)
          (try simp only [List.getElem_toArray]); (try simp only [List.getElem_cons_succ]); (try simp only [List.getElem_cons_zero]); (try simp only [Act.put]); (try simp only [List.setIfInBounds_toArray]); (try simp only [List.set_cons_succ]); (try simp only [List.set_cons_zero])
          refine wpAnyH_take (i := 42) (v := ?_) rfl (by kernel_rfl) (by kernel_rfl) (by kernel_rfl) (fun _ _ _ h => h) (Or.inl ⟨by rfl, ?_⟩) (by assumption) ?_
          rotate_left
          · (intro w' hSw; go_simp; try with_reducible rfl)
          (try simp only [List.getElem_toArray]); (try simp only [List.getElem_cons_succ]); (try simp only [List.getElem_cons_zero]); (try simp only [Act.put]); (try simp only [List.setIfInBounds_toArray]); (try simp only [List.set_cons_succ]); (try simp only [List.set_cons_zero])
          refine wpAnyH_ready (rs := [41]) (by kernel_rfl) (by simp) ?_
          refine AllReadyH.cons rfl (fun K hK => ?_) AllReadyH.nil
          go_simp
          go_at_call 39
          refine (HSimpl.out _ (hK4.up hV7) (hJ4.up hV7)).mono ?_
          rintro e w607 ⟨At, ct, rfl, hOu, hb607⟩
          have hV8 := Up.then_ hV7 hb607
          go_wp2_with fail
          refine hK.out _ _ (by exact ⟨hV8, fun _ _ hb => hV8.cell hb⟩) (fun hHeld8 => ?_)
          clear hK K
          (try simp only [List.getElem_toArray]); (try simp only [List.getElem_cons_succ]); (try simp only [List.getElem_cons_zero]); (try simp only [Act.put]); (try simp only [List.setIfInBounds_toArray]); (try simp only [List.set_cons_succ]); (try simp only [List.set_cons_zero])
          refine wpAnyH_ready (rs := [43]) (by kernel_rfl) (by simp) ?_
          refine AllReadyH.cons rfl (fun K hK => ?_) AllReadyH.nil
          go_simp
          go_at_call 51
          refine (HSspec.out _ (hK4.up hV8) (hJ4.up hV8)).mono ?_
          rintro e w608 ⟨Bt, dt, rfl, hOv, hb608⟩
          have hV9 := Up.then_ hV8 hb608
          go_wp2_with fail
          refine hK.out _ _ (by exact ⟨hV9, fun _ _ hb => hV9.cell hb⟩) (fun hHeld9 => ?_)
          clear hK K
          (try simp only [List.getElem_toArray]); (try simp only [List.getElem_cons_succ]); (try simp only [List.getElem_cons_zero]); (try simp only [Act.put]); (try simp only [List.setIfInBounds_toArray]); (try simp only [List.set_cons_succ]); (try simp only [List.set_cons_zero])
          refine wpAnyH_ready (rs := [44]) (by kernel_rfl) (by simp) ?_
          refine AllReadyH.cons rfl (fun K hK => ?_) AllReadyH.nil
          go_simp
          go_at_call 14
          refine (sameInts_up (hOu.ri.up hb608) hOv.ri htsl).mono ?_
          rintro e w609 ⟨rfl, hb609⟩
          have hV10 := Up.then_ hV9 hb609
          go_wp2_with fail
          refine hK.out _ _ (by exact ⟨hV10, fun _ _ hb => hV10.cell hb⟩) (fun hHeld10 => ?_)
          clear hK K
          (try simp only [List.getElem_toArray]); (try simp only [List.getElem_cons_succ]); (try simp only [List.getElem_cons_zero]); (try simp only [Act.put]); (try simp only [List.setIfInBounds_toArray]); (try simp only [List.set_cons_succ]); (try simp only [List.set_cons_zero])
          refine wpAnyH_take (i := 45) (v := ?_) rfl (by kernel_rfl) (by kernel_rfl) (by kernel_rfl) (fun _ _ _ h => h) (Or.inl ⟨by rfl, ?_⟩) (by assumption) ?_
          rotate_left
          · (intro w' hSw; go_simp; try with_reducible rfl)
          (try simp only [List.getElem_toArray]); (try simp only [List.getElem_cons_succ]); (try simp only [List.getElem_cons_zero]); (try simp only [Act.put]); (try simp only [List.setIfInBounds_toArray]); (try simp only [List.set_cons_succ]); (try simp only [List.set_cons_zero])
          refine wpAnyH_take (i := 46) (v := ?_) rfl (by kernel_rfl) (by kernel_rfl) (by kernel_rfl) (fun _ _ _ h => h) (Or.inl ⟨by rfl, ?_⟩) (by assumption) ?_
          rotate_left
          · (intro w' hSw; go_simp; try with_reducible rfl)
          (try simp only [List.getElem_toArray]); (try simp only [List.getElem_cons_succ]); (try simp only [List.getElem_cons_zero]); (try simp only [Act.put]); (try simp only [List.setIfInBounds_toArray]); (try simp only [List.set_cons_succ]); (try simp only [List.set_cons_zero])
          refine wpAnyH_take (i := 47) (v := ?_) rfl (by kernel_rfl) (by kernel_rfl) (by kernel_rfl) (fun _ _ _ h => h) (Or.inl ⟨by rfl, ?_⟩) (by assumption) ?_
          rotate_left
          · (intro w' hSw; go_simp; try with_reducible rfl)
          (try simp only [List.getElem_toArray]); (try simp only [List.getElem_cons_succ]); (try simp only [List.getElem_cons_zero]); (try simp only [Act.put]); (try simp only [List.setIfInBounds_toArray]); (try simp only [List.set_cons_succ]); (try simp only [List.set_cons_zero])
          refine wpAnyH_take (i := 49) (v := ?_) rfl (by kernel_rfl) (by kernel_rfl) (by kernel_rfl) (fun _ _ _ h => h) (Or.inl ⟨by rfl, ?_⟩) (by assumption) ?_
          rotate_left
          · (intro w' hSw; go_simp; try with_reducible rfl)
          (try simp only [List.getElem_toArray]); (try simp only [List.getElem_cons_succ]); (try simp only [List.getElem_cons_zero]); (try simp only [Act.put]); (try simp only [List.setIfInBounds_toArray]); (try simp only [List.set_cons_succ]); (try simp only [List.set_cons_zero])
          refine wpAnyH_ready (rs := [48]) (by kernel_rfl) (by simp) ?_
          refine AllReadyH.cons rfl (fun K hK => ?_) AllReadyH.nil
          go_simp
          go_at_call 52
          refine (HIimpl.out _ (hK4.up hV10) (hJ4.up hV10)).mono ?_
          rintro e w6010 ⟨rfl, hb6010⟩
          have hV11 := Up.then_ hV10 hb6010
          go_wp2_with fail
          refine hK.out _ _ (by exact ⟨hV11, fun _ _ hb => hV11.cell hb⟩) (fun hHeld11 => ?_)
          clear hK K
          (try simp only [List.getElem_toArray]); (try simp only [List.getElem_cons_succ]); (try simp only [List.getElem_cons_zero]); (try simp only [Act.put]); (try simp only [List.setIfInBounds_toArray]); (try simp only [List.set_cons_succ]); (try simp only [List.set_cons_zero])
          refine wpAnyH_ready (rs := [50]) (by kernel_rfl) (by simp) ?_
          refine AllReadyH.cons rfl (fun K hK => ?_) AllReadyH.nil
          go_simp
          go_at_call 53
          refine (HIspec.out _ (hK4.up hV11) (hJ4.up hV11)).mono ?_
          rintro e w6011 ⟨rfl, hb6011⟩
          have hV12 := Up.then_ hV11 hb6011
          go_wp2_with fail
          refine hK.out _ _ (by exact ⟨hV12, fun _ _ hb => hV12.cell hb⟩) (fun hHeld12 => ?_)
          clear hK K
          (try simp only [List.getElem_toArray]); (try simp only [List.getElem_cons_succ]); (try simp only [List.getElem_cons_zero]); (try simp only [Act.put]); (try simp only [List.setIfInBounds_toArray]); (try simp only [List.set_cons_succ]); (try simp only [List.set_cons_zero])
          refine wpAnyH_take (i := 51) (v := ?_) rfl (by kernel_rfl) (by kernel_rfl) (by kernel_rfl) (fun _ _ _ h => h) (Or.inl ⟨by rfl, ?_⟩) (by assumption) ?_
          rotate_left
          · (intro w' hSw; go_simp; try with_reducible rfl)
          (try simp only [List.getElem_toArray]); (try simp only [List.getElem_cons_succ]); (try simp only [List.getElem_cons_zero]); (try simp only [Act.put]); (try simp only [List.setIfInBounds_toArray]); (try simp only [List.set_cons_succ]); (try simp only [List.set_cons_zero])
          refine wpAnyH_take (i := 52) (v := ?_) rfl (by kernel_rfl) (by kernel_rfl) (by kernel_rfl) (fun _ _ _ h => h) (Or.inl ⟨by rfl, ?_⟩) (by assumption) ?_
          rotate_left
          · (intro w' hSw; go_simp; try with_reducible rfl)
          (try simp only [List.getElem_toArray]); (try simp only [List.getElem_cons_succ]); (try simp only [List.getElem_cons_zero]); (try simp only [Act.put]); (try simp only [List.setIfInBounds_toArray]); (try simp only [List.set_cons_succ]); (try simp only [List.set_cons_zero])
          refine wpAnyH_take (i := 53) (v := ?_) rfl (by kernel_rfl) (by kernel_rfl) (by kernel_rfl) (fun _ _ _ h => h) (Or.inl ⟨by rfl, ?_⟩) (by assumption) ?_
          rotate_left
          · (intro w' hSw; go_simp; try with_reducible rfl)
          (try simp only [List.getElem_toArray]); (try simp only [List.getElem_cons_succ]); (try simp only [List.getElem_cons_zero]); (try simp only [Act.put]); (try simp only [List.setIfInBounds_toArray]); (try simp only [List.set_cons_succ]); (try simp only [List.set_cons_zero])
          refine wpAnyH_take (i := 54) (v := ?_) rfl (by kernel_rfl) (by kernel_rfl) (by kernel_rfl) (fun _ _ _ h => h) (Or.inl ⟨by rfl, ?_⟩) (by assumption) ?_
          rotate_left
          · (intro w' hSw; go_simp; try with_reducible rfl)
          (try simp only [List.getElem_toArray]); (try simp only [List.getElem_cons_succ]); (try simp only [List.getElem_cons_zero]); (try simp only [Act.put]); (try simp only [List.setIfInBounds_toArray]); (try simp only [List.set_cons_succ]); (try simp only [List.set_cons_zero])
          refine wpAnyH_take (i := 56) (v := ?_) rfl (by kernel_rfl) (by kernel_rfl) (by kernel_rfl) (fun _ _ _ h => h) (Or.inl ⟨by rfl, ?_⟩) (by assumption) ?_
          rotate_left
          · (intro w' hSw; go_simp; try with_reducible rfl)
          (try simp only [List.getElem_toArray]); (try simp only [List.getElem_cons_succ]); (try simp only [List.getElem_cons_zero]); (try simp only [Act.put]); (try simp only [List.setIfInBounds_toArray]); (try simp only [List.set_cons_succ]); (try simp only [List.set_cons_zero])
          refine wpAnyH_ready (rs := [55]) (by kernel_rfl) (by simp) ?_
          refine AllReadyH.cons rfl (fun K hK => ?_) AllReadyH.nil
          go_simp
          go_at_call 54
          refine (HFimpl.out _ (hK4.up hV12) (hJ4.up hV12)).mono ?_
          rintro e w6012 ⟨rfl, hb6012⟩
          have hV13 := Up.then_ hV12 hb6012
          go_wp2_with fail
          refine hK.out _ _ (by exact ⟨hV13, fun _ _ hb => hV13.cell hb⟩) (fun hHeld13 => ?_)
          clear hK K
          (try simp only [List.getElem_toArray]); (try simp only [List.getElem_cons_succ]); (try simp only [List.getElem_cons_zero]); (try simp only [Act.put]); (try simp only [List.setIfInBounds_toArray]); (try simp only [List.set_cons_succ]); (try simp only [List.set_cons_zero])
          refine wpAnyH_ready (rs := [57]) (by kernel_rfl) (by simp) ?_
          refine AllReadyH.cons rfl (fun K hK => ?_) AllReadyH.nil
          go_simp
          go_at_call 55
          refine (HFspec.out _ (hK4.up hV13) (hJ4.up hV13)).mono ?_
          rintro e w6013 ⟨rfl, hb6013⟩
          have hV14 := Up.then_ hV13 hb6013
          go_wp2_with fail
          refine hK.out _ _ (by exact ⟨hV14, fun _ _ hb => hV14.cell hb⟩) (fun hHeld14 => ?_)
          clear hK K
          (try simp only [List.getElem_toArray]); (try simp only [List.getElem_cons_succ]); (try simp only [List.getElem_cons_zero]); (try simp only [Act.put]); (try simp only [List.setIfInBounds_toArray]); (try simp only [List.set_cons_succ]); (try simp only [List.set_cons_zero])
          refine wpAnyH_take (i := 58) (v := ?_) rfl (by kernel_rfl) (by kernel_rfl) (by kernel_rfl) (fun _ _ _ h => h) (Or.inl ⟨by rfl, ?_⟩) (by assumption) ?_
          rotate_left
          · (intro w' hSw; go_simp; try with_reducible rfl)
          (try simp only [List.getElem_toArray]); (try simp only [List.getElem_cons_succ]); (try simp only [List.getElem_cons_zero]); (try simp only [Act.put]); (try simp only [List.setIfInBounds_toArray]); (try simp only [List.set_cons_succ]); (try simp only [List.set_cons_zero])
          refine wpAnyH_take (i := 59) (v := ?_) rfl (by kernel_rfl) (by kernel_rfl) (by kernel_rfl) (fun _ _ _ h => h) (Or.inl ⟨by rfl, ?_⟩) (by assumption) ?_
          rotate_left
          · (intro w' hSw; go_simp; try with_reducible rfl)
          (try simp only [List.getElem_toArray]); (try simp only [List.getElem_cons_succ]); (try simp only [List.getElem_cons_zero]); (try simp only [Act.put]); (try simp only [List.setIfInBounds_toArray]); (try simp only [List.set_cons_succ]); (try simp only [List.set_cons_zero])
          refine wpAnyH_take (i := 60) (v := ?_) rfl (by kernel_rfl) (by kernel_rfl) (by kernel_rfl) (fun _ _ _ h => h) (Or.inl ⟨by rfl, ?_⟩) (by assumption) ?_
          rotate_left
          · (intro w' hSw; go_simp; try with_reducible rfl)
          (try simp only [List.getElem_toArray]); (try simp only [List.getElem_cons_succ]); (try simp only [List.getElem_cons_zero]); (try simp only [Act.put]); (try simp only [List.setIfInBounds_toArray]); (try simp only [List.set_cons_succ]); (try simp only [List.set_cons_zero])
          refine wpAnyH_take (i := 61) (v := ?_) rfl (by kernel_rfl) (by kernel_rfl) (by kernel_rfl) (fun _ _ _ h => h) (Or.inl ⟨by rfl, ?_⟩) (by assumption) ?_
          rotate_left
          · (intro w' hSw; go_simp; try with_reducible rfl)
          (try simp only [List.getElem_toArray]); (try simp only [List.getElem_cons_succ]); (try simp only [List.getElem_cons_zero]); (try simp only [Act.put]); (try simp only [List.setIfInBounds_toArray]); (try simp only [List.set_cons_succ]); (try simp only [List.set_cons_zero])
          refine wpAnyH_take (i := 62) (v := ?_) rfl (by kernel_rfl) (by kernel_rfl) (by kernel_rfl) (fun _ _ _ h => h) (Or.inl ⟨by rfl, ?_⟩) (by assumption) ?_
          rotate_left
          · (intro w' hSw; go_simp; try with_reducible rfl)
          (try simp only [List.getElem_toArray]); (try simp only [List.getElem_cons_succ]); (try simp only [List.getElem_cons_zero]); (try simp only [Act.put]); (try simp only [List.setIfInBounds_toArray]); (try simp only [List.set_cons_succ]); (try simp only [List.set_cons_zero])
          refine wpAnyH_take (i := 64) (v := ?_) rfl (by kernel_rfl) (by kernel_rfl) (by kernel_rfl) (fun _ _ _ h => h) (Or.inl ⟨by rfl, ?_⟩) (by assumption) ?_
          rotate_left
          · (intro w' hSw; go_simp; try with_reducible rfl)
          (try simp only [List.getElem_toArray]); (try simp only [List.getElem_cons_succ]); (try simp only [List.getElem_cons_zero]); (try simp only [Act.put]); (try simp only [List.setIfInBounds_toArray]); (try simp only [List.set_cons_succ]); (try simp only [List.set_cons_zero])
          refine wpAnyH_take (i := 65) (v := ?_) rfl (by kernel_rfl) (by kernel_rfl) (by kernel_rfl) (fun _ _ _ h => h) (Or.inl ⟨by rfl, ?_⟩) (by assumption) ?_
          rotate_left
          · (intro w' hSw; go_simp; try with_reducible rfl)
          (try simp only [List.getElem_toArray]); (try simp only [List.getElem_cons_succ]); (try simp only [List.getElem_cons_zero]); (try simp only [Act.put]); (try simp only [List.setIfInBounds_toArray]); (try simp only [List.set_cons_succ]); (try simp only [List.set_cons_zero])
          refine wpAnyH_ready (rs := [63]) (by kernel_rfl) (by simp) ?_
          refine AllReadyH.cons rfl (fun K hK => ?_) AllReadyH.nil
          go_simp
          go_at_call 56
          refine (HQimpl.out _ (hK7.up hV14) (hJ7.up hV14) (hK8.up hV14) (hJ8.up hV14)).mono ?_
          rintro e w6014 ⟨rfl, hb6014⟩
          have hV15 := Up.then_ hV14 hb6014
          go_wp2_with fail
          refine hK.out _ _ (by exact ⟨hV15, fun _ _ hb => hV15.cell hb⟩) (fun hHeld15 => ?_)
          clear hK K
          (try simp only [List.getElem_toArray]); (try simp only [List.getElem_cons_succ]); (try simp only [List.getElem_cons_zero]); (try simp only [Act.put]); (try simp only [List.setIfInBounds_toArray]); (try simp only [List.set_cons_succ]); (try simp only [List.set_cons_zero])
          refine wpAnyH_ready (rs := [66]) (by kernel_rfl) (by simp) ?_
          refine AllReadyH.cons rfl (fun K hK => ?_) AllReadyH.nil
          go_simp
          go_at_call 35
          refine (HQspec.out _ (hK7.up hV15) (hJ7.up hV15) (hK8.up hV15) (hJ8.up hV15)).mono ?_
          rintro e w6015 ⟨rfl, hb6015⟩
          have hV16 := Up.then_ hV15 hb6015
          go_wp2_with fail
          refine hK.out _ _ (by exact ⟨hV16, fun _ _ hb => hV16.cell hb⟩) (fun hHeld16 => ?_)
          clear hK K
          (try simp only [List.getElem_toArray]); (try simp only [List.getElem_cons_succ]); (try simp only [List.getElem_cons_zero]); (try simp only [Act.put]); (try simp only [List.setIfInBounds_toArray]); (try simp only [List.set_cons_succ]); (try simp only [List.set_cons_zero])
          refine wpAnyH_take (i := 67) (v := ?_) rfl (by kernel_rfl) (by kernel_rfl) (by kernel_rfl) (fun _ _ _ h => h) (Or.inl ⟨by rfl, ?_⟩) (by assumption) ?_
          rotate_left
          · (intro w' hSw; go_simp; try with_reducible rfl)
          (try simp only [List.getElem_toArray]); (try simp only [List.getElem_cons_succ]); (try simp only [List.getElem_cons_zero]); (try simp only [Act.put]); (try simp only [List.setIfInBounds_toArray]); (try simp only [List.set_cons_succ]); (try simp only [List.set_cons_zero])
          refine wpAnyH_take (i := 68) (v := ?_) rfl (by kernel_rfl) (by kernel_rfl) (by kernel_rfl) (fun _ _ _ h => h) (Or.inl ⟨by rfl, ?_⟩) (by assumption) ?_
          rotate_left
          · (intro w' hSw; go_simp; try with_reducible rfl)
          (try simp only [List.getElem_toArray]); (try simp only [List.getElem_cons_succ]); (try simp only [List.getElem_cons_zero]); (try simp only [Act.put]); (try simp only [List.setIfInBounds_toArray]); (try simp only [List.set_cons_succ]); (try simp only [List.set_cons_zero])
          refine wpAnyH_take (i := 69) (v := ?_) rfl (by kernel_rfl) (by kernel_rfl) (by kernel_rfl) (fun _ _ _ h => h) (Or.inl ⟨by rfl, ?_⟩) (by assumption) ?_
          rotate_left
          · (intro w' hSw; go_simp; try with_reducible rfl)
          (try simp only [List.getElem_toArray]); (try simp only [List.getElem_cons_succ]); (try simp only [List.getElem_cons_zero]); (try simp only [Act.put]); (try simp only [List.setIfInBounds_toArray]); (try simp only [List.set_cons_succ]); (try simp only [List.set_cons_zero])
          refine wpAnyH_done (by kernel_rfl) ?_ _
          have hU60 := hV16
          have hwE := Up.then_ hw35 hU60
        case' true =>
          have HKd := Lib.hid (HKc.out rfl)
          clear HKc
          go_wp2_with fail
          simp only [List.append_eq, List.cons_append, List.nil_append]
          have hV0 : Up w35 w35.drew := (Up.refl _).drew
          refine wp_region_held_drew (S := (fun w' => Up w35 w' ∧ (∀ b o, b < w35.heap.size → w'.cell? ⟨b, o, none⟩ = w35.cell? ⟨b, o, none⟩))) (by kernel_rfl) (by exact ⟨hV0, fun _ _ hb => hV0.cell hb⟩) (fun hHeld => ?_)
          refine wpAnyH_take (i := 0) (v := ?_) rfl (by kernel_rfl) (by kernel_rfl) (by kernel_rfl) (fun _ _ _ h => h) (Or.inl ⟨by rfl, ?_⟩) (by assumption) ?_
          rotate_left
          · (intro w' hSw; go_simp; try with_reducible rfl)
          (try simp only [List.getElem_toArray]); (try simp only [List.getElem_cons_succ]); (try simp only [List.getElem_cons_zero]); (try simp only [Act.put]); (try simp only [List.setIfInBounds_toArray]); (try simp only [List.set_cons_succ]); (try simp only [List.set_cons_zero])
          refine wpAnyH_take (i := 2) (v := ?_) rfl (by kernel_rfl) (by kernel_rfl) (by kernel_rfl) (fun _ _ _ h => h) (Or.inl ⟨by rfl, ?_⟩) (by assumption) ?_
          rotate_left
          · (intro w' hSw; go_simp; try with_reducible rfl)
          (try simp only [List.getElem_toArray]); (try simp only [List.getElem_cons_succ]); (try simp only [List.getElem_cons_zero]); (try simp only [Act.put]); (try simp only [List.setIfInBounds_toArray]); (try simp only [List.set_cons_succ]); (try simp only [List.set_cons_zero])
          refine wpAnyH_ready (rs := [1]) (by kernel_rfl) (by simp) ?_
          refine AllReadyH.cons rfl (fun K hK => ?_) AllReadyH.nil
          go_simp
          go_at_call 40
          refine (HAimpl.out _ (hP1.up hV0)).mono ?_
          rintro e w600 ⟨As, cs, rfl, hOs, hb600⟩
          have hV1 := Up.then_ hV0 hb600
          go_wp2_with fail
          refine hK.out _ _ (by exact ⟨hV1, fun _ _ hb => hV1.cell hb⟩) (fun hHeld1 => ?_)
          clear hK K
          (try simp only [List.getElem_toArray]); (try simp only [List.getElem_cons_succ]); (try simp only [List.getElem_cons_zero]); (try simp only [Act.put]); (try simp only [List.setIfInBounds_toArray]); (try simp only [List.set_cons_succ]); (try simp only [List.set_cons_zero])
          refine wpAnyH_ready (rs := [3]) (by kernel_rfl) (by simp) ?_
          refine AllReadyH.cons rfl (fun K hK => ?_) AllReadyH.nil
          go_simp
          go_at_call 47
          refine (HAspec.out _ (hP1.up hV1)).mono ?_
          rintro e w601 ⟨Bs, ds, rfl, hOt, hb601⟩
          have hV2 := Up.then_ hV1 hb601
          go_wp2_with fail
          refine hK.out _ _ (by exact ⟨hV2, fun _ _ hb => hV2.cell hb⟩) (fun hHeld2 => ?_)
          clear hK K
          (try simp only [List.getElem_toArray]); (try simp only [List.getElem_cons_succ]); (try simp only [List.getElem_cons_zero]); (try simp only [Act.put]); (try simp only [List.setIfInBounds_toArray]); (try simp only [List.set_cons_succ]); (try simp only [List.set_cons_zero])
          refine wpAnyH_ready (rs := [4]) (by kernel_rfl) (by simp) ?_
          refine AllReadyH.cons rfl (fun K hK => ?_) AllReadyH.nil
          go_simp
          go_at_call 14
          refine (sameInts_up (hOs.ri.up hb601) hOt.ri hs1l).mono ?_
          rintro e w602 ⟨rfl, hb602⟩
          have hV3 := Up.then_ hV2 hb602
          go_wp2_with fail
          refine hK.out _ _ (by exact ⟨hV3, fun _ _ hb => hV3.cell hb⟩) (fun hHeld3 => ?_)
          clear hK K
          (try simp only [List.getElem_toArray]); (try simp only [List.getElem_cons_succ]); (try simp only [List.getElem_cons_zero]); (try simp only [Act.put]); (try simp only [List.setIfInBounds_toArray]); (try simp only [List.set_cons_succ]); (try simp only [List.set_cons_zero])
          refine wpAnyH_take (i := 5) (v := ?_) rfl (by kernel_rfl) (by kernel_rfl) (by kernel_rfl) (fun _ _ _ h => h) (Or.inl ⟨by rfl, ?_⟩) (by assumption) ?_
          rotate_left
          · (intro w' hSw; go_simp; try with_reducible rfl)
          (try simp only [List.getElem_toArray]); (try simp only [List.getElem_cons_succ]); (try simp only [List.getElem_cons_zero]); (try simp only [Act.put]); (try simp only [List.setIfInBounds_toArray]); (try simp only [List.set_cons_succ]); (try simp only [List.set_cons_zero])
          refine wpAnyH_take (i := 6) (v := ?_) rfl (by kernel_rfl) (by kernel_rfl) (by kernel_rfl) (fun _ _ _ h => h) (Or.inl ⟨by rfl, ?_⟩) (by assumption) ?_
          rotate_left
          · (intro w' hSw; go_simp; try with_reducible rfl)
          (try simp only [List.getElem_toArray]); (try simp only [List.getElem_cons_succ]); (try simp only [List.getElem_cons_zero]); (try simp only [Act.put]); (try simp only [List.setIfInBounds_toArray]); (try simp only [List.set_cons_succ]); (try simp only [List.set_cons_zero])
          refine wpAnyH_take (i := 7) (v := ?_) rfl (by kernel_rfl) (by kernel_rfl) (by kernel_rfl) (fun _ _ _ h => h) (Or.inl ⟨by rfl, ?_⟩) (by assumption) ?_
          rotate_left
          · (intro w' hSw; go_simp; try with_reducible rfl)
          (try simp only [List.getElem_toArray]); (try simp only [List.getElem_cons_succ]); (try simp only [List.getElem_cons_zero]); (try simp only [Act.put]); (try simp only [List.setIfInBounds_toArray]); (try simp only [List.set_cons_succ]); (try simp only [List.set_cons_zero])
          refine wpAnyH_take (i := 9) (v := ?_) rfl (by kernel_rfl) (by kernel_rfl) (by kernel_rfl) (fun _ _ _ h => h) (Or.inl ⟨by rfl, ?_⟩) (by assumption) ?_
          rotate_left
          · (intro w' hSw; go_simp; try with_reducible rfl)
          (try simp only [List.getElem_toArray]); (try simp only [List.getElem_cons_succ]); (try simp only [List.getElem_cons_zero]); (try simp only [Act.put]); (try simp only [List.setIfInBounds_toArray]); (try simp only [List.set_cons_succ]); (try simp only [List.set_cons_zero])
          refine wpAnyH_take (i := 10) (v := ?_) rfl (by kernel_rfl) (by kernel_rfl) (by kernel_rfl) (fun _ _ _ h => h) (Or.inl ⟨by rfl, ?_⟩) (by assumption) ?_
          rotate_left
          · (intro w' hSw; go_simp; try with_reducible rfl)
          (try simp only [List.getElem_toArray]); (try simp only [List.getElem_cons_succ]); (try simp only [List.getElem_cons_zero]); (try simp only [Act.put]); (try simp only [List.setIfInBounds_toArray]); (try simp only [List.set_cons_succ]); (try simp only [List.set_cons_zero])
          refine wpAnyH_ready (rs := [8]) (by kernel_rfl) (by simp) ?_
          refine AllReadyH.cons rfl (fun K hK => ?_) AllReadyH.nil
          go_simp
          go_at_call 48
          refine (HMimpl.out _ (hP2.up hV3)).mono ?_
          rintro e w603 ⟨rfl, hb603⟩
          have hV4 := Up.then_ hV3 hb603
          go_wp2_with fail
          refine hK.out _ _ (by exact ⟨hV4, fun _ _ hb => hV4.cell hb⟩) (fun hHeld4 => ?_)
          clear hK K
          (try simp only [List.getElem_toArray]); (try simp only [List.getElem_cons_succ]); (try simp only [List.getElem_cons_zero]); (try simp only [Act.put]); (try simp only [List.setIfInBounds_toArray]); (try simp only [List.set_cons_succ]); (try simp only [List.set_cons_zero])
          refine wpAnyH_ready (rs := [11]) (by kernel_rfl) (by simp) ?_
          refine AllReadyH.cons rfl (fun K hK => ?_) AllReadyH.nil
          go_simp
          go_at_call 49
          refine (HMspec.out _ (hP2.up hV4)).mono ?_
          rintro e w604 ⟨rfl, hb604⟩
          have hV5 := Up.then_ hV4 hb604
          go_wp2_with fail
          refine hK.out _ _ (by exact ⟨hV5, fun _ _ hb => hV5.cell hb⟩) (fun hHeld5 => ?_)
          clear hK K
          (try simp only [List.getElem_toArray]); (try simp only [List.getElem_cons_succ]); (try simp only [List.getElem_cons_zero]); (try simp only [Act.put]); (try simp only [List.setIfInBounds_toArray]); (try simp only [List.set_cons_succ]); (try simp only [List.set_cons_zero])
          refine wpAnyH_take (i := 12) (v := ?_) rfl (by kernel_rfl) (by kernel_rfl) (by kernel_rfl) (fun _ _ _ h => h) (Or.inl ⟨by rfl, ?_⟩) (by assumption) ?_
          rotate_left
          · (intro w' hSw; go_simp; try with_reducible rfl)
          (try simp only [List.getElem_toArray]); (try simp only [List.getElem_cons_succ]); (try simp only [List.getElem_cons_zero]); (try simp only [Act.put]); (try simp only [List.setIfInBounds_toArray]); (try simp only [List.set_cons_succ]); (try simp only [List.set_cons_zero])
          refine wpAnyH_take (i := 13) (v := ?_) rfl (by kernel_rfl) (by kernel_rfl) (by kernel_rfl) (fun _ _ _ h => h) (Or.inl ⟨by rfl, ?_⟩) (by assumption) ?_
          rotate_left
          · (intro w' hSw; go_simp; try with_reducible rfl)
          (try simp only [List.getElem_toArray]); (try simp only [List.getElem_cons_succ]); (try simp only [List.getElem_cons_zero]); (try simp only [Act.put]); (try simp only [List.setIfInBounds_toArray]); (try simp only [List.set_cons_succ]); (try simp only [List.set_cons_zero])
          refine wpAnyH_take (i := 14) (v := ?_) rfl (by kernel_rfl) (by kernel_rfl) (by kernel_rfl) (fun _ _ _ h => h) (Or.inl ⟨by rfl, ?_⟩) (by assumption) ?_
          rotate_left
          · (intro w' hSw; go_simp; try with_reducible rfl)
          (try simp only [List.getElem_toArray]); (try simp only [List.getElem_cons_succ]); (try simp only [List.getElem_cons_zero]); (try simp only [Act.put]); (try simp only [List.setIfInBounds_toArray]); (try simp only [List.set_cons_succ]); (try simp only [List.set_cons_zero])
          refine wpAnyH_take (i := 15) (v := ?_) rfl (by kernel_rfl) (by kernel_rfl) (by kernel_rfl) (fun _ _ _ h => h) (Or.inl ⟨by rfl, ?_⟩) (by assumption) ?_
          rotate_left
          · (intro w' hSw; go_simp; try with_reducible rfl)
          (try simp only [List.getElem_toArray]); (try simp only [List.getElem_cons_succ]); (try simp only [List.getElem_cons_zero]); (try simp only [Act.put]); (try simp only [List.setIfInBounds_toArray]); (try simp only [List.set_cons_succ]); (try simp only [List.set_cons_zero])
          refine wpAnyH_take (i := 16) (v := ?_) rfl (by kernel_rfl) (by kernel_rfl) (by kernel_rfl) (fun _ _ _ h => h) (Or.inl ⟨by rfl, ?_⟩) (by assumption) ?_
          rotate_left
          · (intro w' hSw; go_simp; try with_reducible rfl)
          (try simp only [List.getElem_toArray]); (try simp only [List.getElem_cons_succ]); (try simp only [List.getElem_cons_zero]); (try simp only [Act.put]); (try simp only [List.setIfInBounds_toArray]); (try simp only [List.set_cons_succ]); (try simp only [List.set_cons_zero])
          refine wpAnyH_take (i := 17) (v := ?_) rfl (by kernel_rfl) (by kernel_rfl) (by kernel_rfl) (fun _ _ _ h => h) (Or.inl ⟨by rfl, ?_⟩) (by assumption) ?_
          rotate_left
          · (intro w' hSw; go_simp; try with_reducible rfl)
          (try simp only [List.getElem_toArray]); (try simp only [List.getElem_cons_succ]); (try simp only [List.getElem_cons_zero]); (try simp only [Act.put]); (try simp only [List.setIfInBounds_toArray]); (try simp only [List.set_cons_succ]); (try simp only [List.set_cons_zero])
          refine wpAnyH_ready (rs := [18]) (by kernel_rfl) (by simp) ?_
          refine AllReadyH.cons rfl (fun K hK => ?_) AllReadyH.nil
          go_simp
          go_at_call 50
          refine (HKs.out _ (hP3.up hV5) (hK3.up hV5) (hJ3.up hV5)).mono ?_
          rintro e w605 ⟨rfl, hb605⟩
          have hV6 := Up.then_ hV5 hb605
          go_wp2_with fail
          refine hK.out _ _ (by exact ⟨hV6, fun _ _ hb => hV6.cell hb⟩) (fun hHeld6 => ?_)
          clear hK K
          (try simp only [List.getElem_toArray]); (try simp only [List.getElem_cons_succ]); (try simp only [List.getElem_cons_zero]); (try simp only [Act.put]); (try simp only [List.setIfInBounds_toArray]); (try simp only [List.set_cons_succ]); (try simp only [List.set_cons_zero])
          refine wpAnyH_take (i := 19) (v := ?_) rfl (by kernel_rfl) (by kernel_rfl) (by kernel_rfl) (fun _ _ _ h => h) (Or.inl ⟨by rfl, ?_⟩) (by assumption) ?_
          rotate_left
          · (intro w' hSw; go_simp; try with_reducible rfl)
          (try simp only [List.getElem_toArray]); (try simp only [List.getElem_cons_succ]); (try simp only [List.getElem_cons_zero]); (try simp only [Act.put]); (try simp only [List.setIfInBounds_toArray]); (try simp only [List.set_cons_succ]); (try simp only [List.set_cons_zero])
          refine wpAnyH_take (i := 20) (v := ?_) rfl (by kernel_rfl) (by kernel_rfl) (by kernel_rfl) (fun _ _ _ h => h) (Or.inl ⟨by rfl, ?_⟩) (by assumption) ?_
          rotate_left
          · (intro w' hSw; go_simp; try with_reducible rfl)
          (try simp only [List.getElem_toArray]); (try simp only [List.getElem_cons_succ]); (try simp only [List.getElem_cons_zero]); (try simp only [Act.put]); (try simp only [List.setIfInBounds_toArray]); (try simp only [List.set_cons_succ]); (try simp only [List.set_cons_zero])
          refine wpAnyH_take (i := 21) (v := ?_) rfl (by kernel_rfl) (by kernel_rfl) (by kernel_rfl) (fun _ _ _ h => h) (Or.inl ⟨by rfl, ?_⟩) (by assumption) ?_
          rotate_left
          · (intro w' hSw; go_simp; try with_reducible rfl)
          (try simp only [List.getElem_toArray]); (try simp only [List.getElem_cons_succ]); (try simp only [List.getElem_cons_zero]); (try simp only [Act.put]); (try simp only [List.setIfInBounds_toArray]); (try simp only [List.set_cons_succ]); (try simp only [List.set_cons_zero])
          refine wpAnyH_take (i := 22) (v := ?_) rfl (by kernel_rfl) (by kernel_rfl) (by kernel_rfl) (fun _ _ _ h => h) (Or.inl ⟨by rfl, ?_⟩) (by assumption) ?_
          rotate_left
          · (intro w' hSw; go_simp; try with_reducible rfl)
          (try simp only [List.getElem_toArray]); (try simp only [List.getElem_cons_succ]); (try simp only [List.getElem_cons_zero]); (try simp only [Act.put]); (try simp only [List.setIfInBounds_toArray]); (try simp only [List.set_cons_succ]); (try simp only [List.set_cons_zero])
          refine wpAnyH_take (i := 23) (v := ?_) rfl (by kernel_rfl) (by kernel_rfl) (by kernel_rfl) (fun _ _ _ h => h) (Or.inl ⟨by rfl, ?_⟩) (by assumption) ?_
          rotate_left
          · (intro w' hSw; go_simp; try with_reducible rfl)
          (try simp only [List.getElem_toArray]); (try simp only [List.getElem_cons_succ]); (try simp only [List.getElem_cons_zero]); (try simp only [Act.put]); (try simp only [List.setIfInBounds_toArray]); (try simp only [List.set_cons_succ]); (try simp only [List.set_cons_zero])
          refine wpAnyH_take (i := 24) (v := ?_) rfl (by kernel_rfl) (by kernel_rfl) (by kernel_rfl) (fun _ _ _ h => h) (Or.inl ⟨by rfl, ?_⟩) (by assumption) ?_
          rotate_left
          · (intro w' hSw; go_simp; try with_reducible rfl)
          (try simp only [List.getElem_toArray]); (try simp only [List.getElem_cons_succ]); (try simp only [List.getElem_cons_zero]); (try simp only [Act.put]); (try simp only [List.setIfInBounds_toArray]); (try simp only [List.set_cons_succ]); (try simp only [List.set_cons_zero])
          refine wpAnyH_take (i := 25) (v := ?_) rfl (by kernel_rfl) (by kernel_rfl) (by kernel_rfl) (fun _ _ _ h => h) (Or.inl ⟨by rfl, ?_⟩) (by assumption) ?_
          rotate_left
          · (intro w' hSw; go_simp; try with_reducible rfl)
          (try simp only [List.getElem_toArray]); (try simp only [List.getElem_cons_succ]); (try simp only [List.getElem_cons_zero]); (try simp only [Act.put]); (try simp only [List.setIfInBounds_toArray]); (try simp only [List.set_cons_succ]); (try simp only [List.set_cons_zero])
          refine wpAnyH_ready (rs := [26]) (by kernel_rfl) (by simp) ?_
          refine AllReadyH.cons rfl (fun K hK => ?_) AllReadyH.nil
          go_simp
          go_at_call 36
          refine (HKd.out _ (hP3.up hV6)).mono ?_
          rintro e w606 ⟨rfl, hb606⟩
          have hV7 := Up.then_ hV6 hb606
          go_wp2_with fail
          refine hK.out _ _ (by exact ⟨hV7, fun _ _ hb => hV7.cell hb⟩) (fun hHeld7 => ?_)
          clear hK K
          (try simp only [List.getElem_toArray]); (try simp only [List.getElem_cons_succ]); (try simp only [List.getElem_cons_zero]); (try simp only [Act.put]); (try simp only [List.setIfInBounds_toArray]); (try simp only [List.set_cons_succ]); (try simp only [List.set_cons_zero])
          refine wpAnyH_take (i := 27) (v := ?_) rfl (by kernel_rfl) (by kernel_rfl) (by kernel_rfl) (fun _ _ _ h => h) (Or.inl ⟨by rfl, ?_⟩) (by assumption) ?_
          rotate_left
          · (intro w' hSw; go_simp; try with_reducible rfl)
          (try simp only [List.getElem_toArray]); (try simp only [List.getElem_cons_succ]); (try simp only [List.getElem_cons_zero]); (try simp only [Act.put]); (try simp only [List.setIfInBounds_toArray]); (try simp only [List.set_cons_succ]); (try simp only [List.set_cons_zero])
          refine wpAnyH_take (i := 28) (v := ?_) rfl (by kernel_rfl) (by kernel_rfl) (by kernel_rfl) (fun _ _ _ h => h) (Or.inl ⟨by rfl, ?_⟩) (by assumption) ?_
          rotate_left
          · (intro w' hSw; go_simp; try with_reducible rfl)
          (try simp only [List.getElem_toArray]); (try simp only [List.getElem_cons_succ]); (try simp only [List.getElem_cons_zero]); (try simp only [Act.put]); (try simp only [List.setIfInBounds_toArray]); (try simp only [List.set_cons_succ]); (try simp only [List.set_cons_zero])
          refine wpAnyH_take (i := 29) (v := ?_) rfl (by kernel_rfl) (by kernel_rfl) (by kernel_rfl) (fun _ _ _ h => h) (Or.inl ⟨by rfl, ?_⟩) (by assumption) ?_
          rotate_left
          · (intro w' hSw; go_simp; try with_reducible rfl)
          (try simp only [List.getElem_toArray]); (try simp only [List.getElem_cons_succ]); (try simp only [List.getElem_cons_zero]); (try simp only [Act.put]); (try simp only [List.setIfInBounds_toArray]); (try simp only [List.set_cons_succ]); (try simp only [List.set_cons_zero])
          refine wpAnyH_take (i := 30) (v := ?_) rfl (by kernel_rfl) (by kernel_rfl) (by kernel_rfl) (fun _ _ _ h => h) (Or.inl ⟨by rfl, ?_⟩) (by assumption) ?_
          rotate_left
          · (intro w' hSw; go_simp; try with_reducible rfl)
          (try simp only [List.getElem_toArray]); (try simp only [List.getElem_cons_succ]); (try simp only [List.getElem_cons_zero]); (try simp only [Act.put]); (try simp only [List.setIfInBounds_toArray]); (try simp only [List.set_cons_succ]); (try simp only [List.set_cons_zero])
          refine wpAnyH_take (i := 31) (v := ?_) rfl (by kernel_rfl) (by kernel_rfl) (by kernel_rfl) (fun _ _ _ h => h) (Or.inl ⟨by rfl, ?_⟩) (by assumption) ?_
          rotate_left
          · (intro w' hSw; go_simp; try with_reducible rfl)
          (try simp only [List.getElem_toArray]); (try simp only [List.getElem_cons_succ]); (try simp only [List.getElem_cons_zero]); (try simp only [Act.put]); (try simp only [List.setIfInBounds_toArray]); (try simp only [List.set_cons_succ]); (try simp only [List.set_cons_zero])
          refine wpAnyH_take (i := 32) (v := ?_) rfl (by kernel_rfl) (by kernel_rfl) (by kernel_rfl) (fun _ _ _ h => h) (Or.inl ⟨by rfl, ?_⟩) (by assumption) ?_
          rotate_left
          · (intro w' hSw; go_simp; try with_reducible rfl)
          (try simp only [List.getElem_toArray]); (try simp only [List.getElem_cons_succ]); (try simp only [List.getElem_cons_zero]); (try simp only [Act.put]); (try simp only [List.setIfInBounds_toArray]); (try simp only [List.set_cons_succ]); (try simp only [List.set_cons_zero])
          refine wpAnyH_take (i := 33) (v := ?_) rfl (by kernel_rfl) (by kernel_rfl) (by kernel_rfl) (fun _ _ _ h => h) (Or.inl ⟨by rfl, ?_⟩) (by assumption) ?_
          rotate_left
          · (intro w' hSw; go_simp; try with_reducible rfl)
          (try simp only [List.getElem_toArray]); (try simp only [List.getElem_cons_succ]); (try simp only [List.getElem_cons_zero]); (try simp only [Act.put]); (try simp only [List.setIfInBounds_toArray]); (try simp only [List.set_cons_succ]); (try simp only [List.set_cons_zero])
          refine wpAnyH_take (i := 34) (v := ?_) rfl (by kernel_rfl) (by kernel_rfl) (by kernel_rfl) (fun _ _ _ h => h) (Or.inl ⟨by rfl, ?_⟩) (by assumption) ?_
          rotate_left
          · (intro w' hSw; go_simp; try with_reducible rfl)
          (try simp only [List.getElem_toArray]); (try simp only [List.getElem_cons_succ]); (try simp only [List.getElem_cons_zero]); (try simp only [Act.put]); (try simp only [List.setIfInBounds_toArray]); (try simp only [List.set_cons_succ]); (try simp only [List.set_cons_zero])
          refine wpAnyH_take (i := 35) (v := ?_) rfl (by kernel_rfl) (by kernel_rfl) (by kernel_rfl) (fun _ _ _ h => h) (Or.inl ⟨by rfl, ?_⟩) (by assumption) ?_
          rotate_left
          · (intro w' hSw; go_simp; try with_reducible rfl)
          (try simp only [List.getElem_toArray]); (try simp only [List.getElem_cons_succ]); (try simp only [List.getElem_cons_zero]); (try simp only [Act.put]); (try simp only [List.setIfInBounds_toArray]); (try simp only [List.set_cons_succ]); (try simp only [List.set_cons_zero])
          refine wpAnyH_take (i := 36) (v := ?_) rfl (by kernel_rfl) (by kernel_rfl) (by kernel_rfl) (fun _ _ _ h => h) (Or.inl ⟨by rfl, ?_⟩) (by assumption) ?_
          rotate_left
          · (intro w' hSw; go_simp; try with_reducible rfl)
          (try simp only [List.getElem_toArray]); (try simp only [List.getElem_cons_succ]); (try simp only [List.getElem_cons_zero]); (try simp only [Act.put]); (try simp only [List.setIfInBounds_toArray]); (try simp only [List.set_cons_succ]); (try simp only [List.set_cons_zero])
          refine wpAnyH_ready (rs := [37]) (by kernel_rfl) (by simp) ?_
          refine AllReadyH.cons rfl (fun K hK => ?_) AllReadyH.nil
          go_simp
          go_at_call 13
          refine (HE.out _ (hO30.up hV7) (hO32.up hV7)).mono ?_
          rintro e w607 ⟨rfl, hb607⟩
          have hV8 := Up.then_ hV7 hb607
          go_wp2_with fail
          refine hK.out _ _ (by exact ⟨hV8, fun _ _ hb => hV8.cell hb⟩) (fun hHeld8 => ?_)
          clear hK K
          (try simp only [List.getElem_toArray]); (try simp only [List.getElem_cons_succ]); (try simp only [List.getElem_cons_zero]); (try simp only [Act.put]); (try simp only [List.setIfInBounds_toArray]); (try simp only [List.set_cons_succ]); (try simp only [List.set_cons_zero])
          refine wpAnyH_take (i := 38) (v := ?_) rfl (by kernel_rfl) (by kernel_rfl) (by kernel_rfl) (fun _ _ _ h => h) (Or.inl ⟨by rfl, ?_⟩) (by assumption) ?_
          rotate_left
          · (intro w' hSw; go_simp; try with_reducible rfl)
          (try simp only [List.getElem_toArray]); (try simp only [List.getElem_cons_succ]); (try simp only [List.getElem_cons_zero]); (try simp only [Act.put]); (try simp only [List.setIfInBounds_toArray]); (try simp only [List.set_cons_succ]); (try simp only [List.set_cons_zero])
          refine wpAnyH_take (i := 39) (v := ?_) rfl (by kernel_rfl) (by kernel_rfl) (by kernel_rfl) (fun _ _ _ h => h) (Or.inl ⟨by rfl, ?_⟩) (by assumption) ?_
          rotate_left
          · (intro w' hSw; go_simp; try with_reducible rfl)
          (try simp only [List.getElem_toArray]); (try simp only [List.getElem_cons_succ]); (try simp only [List.getElem_cons_zero]); (try simp only [Act.put]); (try simp only [List.setIfInBounds_toArray]); (try simp only [List.set_cons_succ]); (try simp only [List.set_cons_zero])
          refine wpAnyH_take (i := 40) (v := ?_) rfl (by kernel_rfl) (by kernel_rfl) (by kernel_rfl) (fun _ _ _ h => h) (Or.inl ⟨by rfl, ?_⟩) (by assumption) ?_
          rotate_left
          · (intro w' hSw; go_simp; try with_reducible rfl)
          (try simp only [List.getElem_toArray]); (try simp only [List.getElem_cons_succ]); (try simp only [List.getElem_cons_zero]); (try simp only [Act.put]); (try simp only [List.setIfInBounds_toArray]); (try simp only [List.set_cons_succ]); (try simp only [List.set_cons_zero])
          refine wpAnyH_take (i := 42) (v := ?_) rfl (by kernel_rfl) (by kernel_rfl) (by kernel_rfl) (fun _ _ _ h => h) (Or.inl ⟨by rfl, ?_⟩) (by assumption) ?_
          rotate_left
          · (intro w' hSw; go_simp; try with_reducible rfl)
          (try simp only [List.getElem_toArray]); (try simp only [List.getElem_cons_succ]); (try simp only [List.getElem_cons_zero]); (try simp only [Act.put]); (try simp only [List.setIfInBounds_toArray]); (try simp only [List.set_cons_succ]); (try simp only [List.set_cons_zero])
          refine wpAnyH_ready (rs := [41]) (by kernel_rfl) (by simp) ?_
          refine AllReadyH.cons rfl (fun K hK => ?_) AllReadyH.nil
          go_simp
          go_at_call 39
          refine (HSimpl.out _ (hK4.up hV8) (hJ4.up hV8)).mono ?_
          rintro e w608 ⟨At, ct, rfl, hOu, hb608⟩
          have hV9 := Up.then_ hV8 hb608
          go_wp2_with fail
          refine hK.out _ _ (by exact ⟨hV9, fun _ _ hb => hV9.cell hb⟩) (fun hHeld9 => ?_)
          clear hK K
          (try simp only [List.getElem_toArray]); (try simp only [List.getElem_cons_succ]); (try simp only [List.getElem_cons_zero]); (try simp only [Act.put]); (try simp only [List.setIfInBounds_toArray]); (try simp only [List.set_cons_succ]); (try simp only [List.set_cons_zero])
          refine wpAnyH_ready (rs := [43]) (by kernel_rfl) (by simp) ?_
          refine AllReadyH.cons rfl (fun K hK => ?_) AllReadyH.nil
          go_simp
          go_at_call 51
          refine (HSspec.out _ (hK4.up hV9) (hJ4.up hV9)).mono ?_
          rintro e w609 ⟨Bt, dt, rfl, hOv, hb609⟩
          have hV10 := Up.then_ hV9 hb609
          go_wp2_with fail
          refine hK.out _ _ (by exact ⟨hV10, fun _ _ hb => hV10.cell hb⟩) (fun hHeld10 => ?_)
          clear hK K
          (try simp only [List.getElem_toArray]); (try simp only [List.getElem_cons_succ]); (try simp only [List.getElem_cons_zero]); (try simp only [Act.put]); (try simp only [List.setIfInBounds_toArray]); (try simp only [List.set_cons_succ]); (try simp only [List.set_cons_zero])
          refine wpAnyH_ready (rs := [44]) (by kernel_rfl) (by simp) ?_
          refine AllReadyH.cons rfl (fun K hK => ?_) AllReadyH.nil
          go_simp
          go_at_call 14
          refine (sameInts_up (hOu.ri.up hb609) hOv.ri htsl).mono ?_
          rintro e w6010 ⟨rfl, hb6010⟩
          have hV11 := Up.then_ hV10 hb6010
          go_wp2_with fail
          refine hK.out _ _ (by exact ⟨hV11, fun _ _ hb => hV11.cell hb⟩) (fun hHeld11 => ?_)
          clear hK K
          (try simp only [List.getElem_toArray]); (try simp only [List.getElem_cons_succ]); (try simp only [List.getElem_cons_zero]); (try simp only [Act.put]); (try simp only [List.setIfInBounds_toArray]); (try simp only [List.set_cons_succ]); (try simp only [List.set_cons_zero])
          refine wpAnyH_take (i := 45) (v := ?_) rfl (by kernel_rfl) (by kernel_rfl) (by kernel_rfl) (fun _ _ _ h => h) (Or.inl ⟨by rfl, ?_⟩) (by assumption) ?_
          rotate_left
          · (intro w' hSw; go_simp; try with_reducible rfl)
          (try simp only [List.getElem_toArray]); (try simp only [List.getElem_cons_succ]); (try simp only [List.getElem_cons_zero]); (try simp only [Act.put]); (try simp only [List.setIfInBounds_toArray]); (try simp only [List.set_cons_succ]); (try simp only [List.set_cons_zero])
          refine wpAnyH_take (i := 46) (v := ?_) rfl (by kernel_rfl) (by kernel_rfl) (by kernel_rfl) (fun _ _ _ h => h) (Or.inl ⟨by rfl, ?_⟩) (by assumption) ?_
          rotate_left
          · (intro w' hSw; go_simp; try with_reducible rfl)
          (try simp only [List.getElem_toArray]); (try simp only [List.getElem_cons_succ]); (try simp only [List.getElem_cons_zero]); (try simp only [Act.put]); (try simp only [List.setIfInBounds_toArray]); (try simp only [List.set_cons_succ]); (try simp only [List.set_cons_zero])
          refine wpAnyH_take (i := 47) (v := ?_) rfl (by kernel_rfl) (by kernel_rfl) (by kernel_rfl) (fun _ _ _ h => h) (Or.inl ⟨by rfl, ?_⟩) (by assumption) ?_
          rotate_left
          · (intro w' hSw; go_simp; try with_reducible rfl)
          (try simp only [List.getElem_toArray]); (try simp only [List.getElem_cons_succ]); (try simp only [List.getElem_cons_zero]); (try simp only [Act.put]); (try simp only [List.setIfInBounds_toArray]); (try simp only [List.set_cons_succ]); (try simp only [List.set_cons_zero])
          refine wpAnyH_take (i := 49) (v := ?_) rfl (by kernel_rfl) (by kernel_rfl) (by kernel_rfl) (fun _ _ _ h => h) (Or.inl ⟨by rfl, ?_⟩) (by assumption) ?_
          rotate_left
          · (intro w' hSw; go_simp; try with_reducible rfl)
          (try simp only [List.getElem_toArray]); (try simp only [List.getElem_cons_succ]); (try simp only [List.getElem_cons_zero]); (try simp only [Act.put]); (try simp only [List.setIfInBounds_toArray]); (try simp only [List.set_cons_succ]); (try simp only [List.set_cons_zero])
          refine wpAnyH_ready (rs := [48]) (by kernel_rfl) (by simp) ?_
          refine AllReadyH.cons rfl (fun K hK => ?_) AllReadyH.nil
          go_simp
          go_at_call 52
          refine (HIimpl.out _ (hK4.up hV11) (hJ4.up hV11)).mono ?_
          rintro e w6011 ⟨rfl, hb6011⟩
          have hV12 := Up.then_ hV11 hb6011
          go_wp2_with fail
          refine hK.out _ _ (by exact ⟨hV12, fun _ _ hb => hV12.cell hb⟩) (fun hHeld12 => ?_)
          clear hK K
          (try simp only [List.getElem_toArray]); (try simp only [List.getElem_cons_succ]); (try simp only [List.getElem_cons_zero]); (try simp only [Act.put]); (try simp only [List.setIfInBounds_toArray]); (try simp only [List.set_cons_succ]); (try simp only [List.set_cons_zero])
          refine wpAnyH_ready (rs := [50]) (by kernel_rfl) (by simp) ?_
          refine AllReadyH.cons rfl (fun K hK => ?_) AllReadyH.nil
          go_simp
          go_at_call 53
          refine (HIspec.out _ (hK4.up hV12) (hJ4.up hV12)).mono ?_
          rintro e w6012 ⟨rfl, hb6012⟩
          have hV13 := Up.then_ hV12 hb6012
          go_wp2_with fail
          refine hK.out _ _ (by exact ⟨hV13, fun _ _ hb => hV13.cell hb⟩) (fun hHeld13 => ?_)
          clear hK K
          (try simp only [List.getElem_toArray]); (try simp only [List.getElem_cons_succ]); (try simp only [List.getElem_cons_zero]); (try simp only [Act.put]); (try simp only [List.setIfInBounds_toArray]); (try simp only [List.set_cons_succ]); (try simp only [List.set_cons_zero])
          refine wpAnyH_take (i := 51) (v := ?_) rfl (by kernel_rfl) (by kernel_rfl) (by kernel_rfl) (fun _ _ _ h => h) (Or.inl ⟨by rfl, ?_⟩) (by assumption) ?_
          rotate_left
          · (intro w' hSw; go_simp; try with_reducible rfl)
          (try simp only [List.getElem_toArray]); (try simp only [List.getElem_cons_succ]); (try simp only [List.getElem_cons_zero]); (try simp only [Act.put]); (try simp only [List.setIfInBounds_toArray]); (try simp only [List.set_cons_succ]); (try simp only [List.set_cons_zero])
          refine wpAnyH_take (i := 52) (v := ?_) rfl (by kernel_rfl) (by kernel_rfl) (by kernel_rfl) (fun _ _ _ h => h) (Or.inl ⟨by rfl, ?_⟩) (by assumption) ?_
          rotate_left
          · (intro w' hSw; go_simp; try with_reducible rfl)
          (try simp only [List.getElem_toArray]); (try simp only [List.getElem_cons_succ]); (try simp only [List.getElem_cons_zero]); (try simp only [Act.put]); (try simp only [List.setIfInBounds_toArray]); (try simp only [List.set_cons_succ]); (try simp only [List.set_cons_zero])
          refine wpAnyH_take (i := 53) (v := ?_) rfl (by kernel_rfl) (by kernel_rfl) (by kernel_rfl) (fun _ _ _ h => h) (Or.inl ⟨by rfl, ?_⟩) (by assumption) ?_
          rotate_left
          · (intro w' hSw; go_simp; try with_reducible rfl)
          (try simp only [List.getElem_toArray]); (try simp only [List.getElem_cons_succ]); (try simp only [List.getElem_cons_zero]); (try simp only [Act.put]); (try simp only [List.setIfInBounds_toArray]); (try simp only [List.set_cons_succ]); (try simp only [List.set_cons_zero])
          refine wpAnyH_take (i := 54) (v := ?_) rfl (by kernel_rfl) (by kernel_rfl) (by kernel_rfl) (fun _ _ _ h => h) (Or.inl ⟨by rfl, ?_⟩) (by assumption) ?_
          rotate_left
          · (intro w' hSw; go_simp; try with_reducible rfl)
          (try simp only [List.getElem_toArray]); (try simp only [List.getElem_cons_succ]); (try simp only [List.getElem_cons_zero]); (try simp only [Act.put]); (try simp only [List.setIfInBounds_toArray]); (try simp only [List.set_cons_succ]); (try simp only [List.set_cons_zero])
          refine wpAnyH_take (i := 56) (v := ?_) rfl (by kernel_rfl) (by kernel_rfl) (by kernel_rfl) (fun _ _ _ h => h) (Or.inl ⟨by rfl, ?_⟩) (by assumption) ?_
          rotate_left
          · (intro w' hSw; go_simp; try with_reducible rfl)
          (try simp only [List.getElem_toArray]); (try simp only [List.getElem_cons_succ]); (try simp only [List.getElem_cons_zero]); (try simp only [Act.put]); (try simp only [List.setIfInBounds_toArray]); (try simp only [List.set_cons_succ]); (try simp only [List.set_cons_zero])
          refine wpAnyH_ready (rs := [55]) (by kernel_rfl) (by simp) ?_
          refine AllReadyH.cons rfl (fun K hK => ?_) AllReadyH.nil
          go_simp
          go_at_call 54
          refine (HFimpl.out _ (hK4.up hV13) (hJ4.up hV13)).mono ?_
          rintro e w6013 ⟨rfl, hb6013⟩
          have hV14 := Up.then_ hV13 hb6013
          go_wp2_with fail
          refine hK.out _ _ (by exact ⟨hV14, fun _ _ hb => hV14.cell hb⟩) (fun hHeld14 => ?_)
          clear hK K
          (try simp only [List.getElem_toArray]); (try simp only [List.getElem_cons_succ]); (try simp only [List.getElem_cons_zero]); (try simp only [Act.put]); (try simp only [List.setIfInBounds_toArray]); (try simp only [List.set_cons_succ]); (try simp only [List.set_cons_zero])
          refine wpAnyH_ready (rs := [57]) (by kernel_rfl) (by simp) ?_
          refine AllReadyH.cons rfl (fun K hK => ?_) AllReadyH.nil
          go_simp
          go_at_call 55
          refine (HFspec.out _ (hK4.up hV14) (hJ4.up hV14)).mono ?_
          rintro e w6014 ⟨rfl, hb6014⟩
          have hV15 := Up.then_ hV14 hb6014
          go_wp2_with fail
          refine hK.out _ _ (by exact ⟨hV15, fun _ _ hb => hV15.cell hb⟩) (fun hHeld15 => ?_)
          clear hK K
          (try simp only [List.getElem_toArray]); (try simp only [List.getElem_cons_succ]); (try simp only [List.getElem_cons_zero]); (try simp only [Act.put]); (try simp only [List.setIfInBounds_toArray]); (try simp only [List.set_cons_succ]); (try simp only [List.set_cons_zero])
          refine wpAnyH_take (i := 58) (v := ?_) rfl (by kernel_rfl) (by kernel_rfl) (by kernel_rfl) (fun _ _ _ h => h) (Or.inl ⟨by rfl, ?_⟩) (by assumption) ?_
          rotate_left
          · (intro w' hSw; go_simp; try with_reducible rfl)
          (try simp only [List.getElem_toArray]); (try simp only [List.getElem_cons_succ]); (try simp only [List.getElem_cons_zero]); (try simp only [Act.put]); (try simp only [List.setIfInBounds_toArray]); (try simp only [List.set_cons_succ]); (try simp only [List.set_cons_zero])
          refine wpAnyH_take (i := 59) (v := ?_) rfl (by kernel_rfl) (by kernel_rfl) (by kernel_rfl) (fun _ _ _ h => h) (Or.inl ⟨by rfl, ?_⟩) (by assumption) ?_
          rotate_left
          · (intro w' hSw; go_simp; try with_reducible rfl)
          (try simp only [List.getElem_toArray]); (try simp only [List.getElem_cons_succ]); (try simp only [List.getElem_cons_zero]); (try simp only [Act.put]); (try simp only [List.setIfInBounds_toArray]); (try simp only [List.set_cons_succ]); (try simp only [List.set_cons_zero])
          refine wpAnyH_take (i := 60) (v := ?_) rfl (by kernel_rfl) (by kernel_rfl) (by kernel_rfl) (fun _ _ _ h => h) (Or.inl ⟨by rfl, ?_⟩) (by assumption) ?_
          rotate_left
          · (intro w' hSw; go_simp; try with_reducible rfl)
          (try simp only [List.getElem_toArray]); (try simp only [List.getElem_cons_succ]); (try simp only [List.getElem_cons_zero]); (try simp only [Act.put]); (try simp only [List.setIfInBounds_toArray]); (try simp only [List.set_cons_succ]); (try simp only [List.set_cons_zero])
          refine wpAnyH_take (i := 61) (v := ?_) rfl (by kernel_rfl) (by kernel_rfl) (by kernel_rfl) (fun _ _ _ h => h) (Or.inl ⟨by rfl, ?_⟩) (by assumption) ?_
          rotate_left
          · (intro w' hSw; go_simp; try with_reducible rfl)
          (try simp only [List.getElem_toArray]); (try simp only [List.getElem_cons_succ]); (try simp only [List.getElem_cons_zero]); (try simp only [Act.put]); (try simp only [List.setIfInBounds_toArray]); (try simp only [List.set_cons_succ]); (try simp only [List.set_cons_zero])
          refine wpAnyH_take (i := 62) (v := ?_) rfl (by kernel_rfl) (by kernel_rfl) (by kernel_rfl) (fun _ _ _ h => h) (Or.inl ⟨by rfl, ?_⟩) (by assumption) ?_
          rotate_left
          · (intro w' hSw; go_simp; try with_reducible rfl)
          (try simp only [List.getElem_toArray]); (try simp only [List.getElem_cons_succ]); (try simp only [List.getElem_cons_zero]); (try simp only [Act.put]); (try simp only [List.setIfInBounds_toArray]); (try simp only [List.set_cons_succ]); (try simp only [List.set_cons_zero])
          refine wpAnyH_take (i := 64) (v := ?_) rfl (by kernel_rfl) (by kernel_rfl) (by kernel_rfl) (fun _ _ _ h => h) (Or.inl ⟨by rfl, ?_⟩) (by assumption) ?_
          rotate_left
          · (intro w' hSw; go_simp; try with_reducible rfl)
          (try simp only [List.getElem_toArray]); (try simp only [List.getElem_cons_succ]); (try simp only [List.getElem_cons_zero]); (try simp only [Act.put]); (try simp only [List.setIfInBounds_toArray]); (try simp only [List.set_cons_succ]); (try simp only [List.set_cons_zero])
          refine wpAnyH_take (i := 65) (v := ?_) rfl (by kernel_rfl) (by kernel_rfl) (by kernel_rfl) (fun _ _ _ h => h) (Or.inl ⟨by rfl, ?_⟩) (by assumption) ?_
          rotate_left
          · (intro w' hSw; go_simp; try with_reducible rfl)
          (try simp only [List.getElem_toArray]); (try simp only [List.getElem_cons_succ]); (try simp only [List.getElem_cons_zero]); (try simp only [Act.put]); (try simp only [List.setIfInBounds_toArray]); (try simp only [List.set_cons_succ]); (try simp only [List.set_cons_zero])
          refine wpAnyH_ready (rs := [63]) (by kernel_rfl) (by simp) ?_
          refine AllReadyH.cons rfl (fun K hK => ?_) AllReadyH.nil
          go_simp
          go_at_call 56
          refine (HQimpl.out _ (hK7.up hV15) (hJ7.up hV15) (hK8.up hV15) (hJ8.up hV15)).mono ?_
          rintro e w6015 ⟨rfl, hb6015⟩
          have hV16 := Up.then_ hV15 hb6015
          go_wp2_with fail
          refine hK.out _ _ (by exact ⟨hV16, fun _ _ hb => hV16.cell hb⟩) (fun hHeld16 => ?_)
          clear hK K
          (try simp only [List.getElem_toArray]); (try simp only [List.getElem_cons_succ]); (try simp only [List.getElem_cons_zero]); (try simp only [Act.put]); (try simp only [List.setIfInBounds_toArray]); (try simp only [List.set_cons_succ]); (try simp only [List.set_cons_zero])
          refine wpAnyH_ready (rs := [66]) (by kernel_rfl) (by simp) ?_
          refine AllReadyH.cons rfl (fun K hK => ?_) AllReadyH.nil
          go_simp
          go_at_call 35
          refine (HQspec.out _ (hK7.up hV16) (hJ7.up hV16) (hK8.up hV16) (hJ8.up hV16)).mono ?_
          rintro e w6016 ⟨rfl, hb6016⟩
          have hV17 := Up.then_ hV16 hb6016
          go_wp2_with fail
          refine hK.out _ _ (by exact ⟨hV17, fun _ _ hb => hV17.cell hb⟩) (fun hHeld17 => ?_)
          clear hK K
          (try simp only [List.getElem_toArray]); (try simp only [List.getElem_cons_succ]); (try simp only [List.getElem_cons_zero]); (try simp only [Act.put]); (try simp only [List.setIfInBounds_toArray]); (try simp only [List.set_cons_succ]); (try simp only [List.set_cons_zero])
          refine wpAnyH_take (i := 67) (v := ?_) rfl (by kernel_rfl) (by kernel_rfl) (by kernel_rfl) (fun _ _ _ h => h) (Or.inl ⟨by rfl, ?_⟩) (by assumption) ?_
          rotate_left
          · (intro w' hSw; go_simp; try with_reducible rfl)
          (try simp only [List.getElem_toArray]); (try simp only [List.getElem_cons_succ]); (try simp only [List.getElem_cons_zero]); (try simp only [Act.put]); (try simp only [List.setIfInBounds_toArray]); (try simp only [List.set_cons_succ]); (try simp only [List.set_cons_zero])
          refine wpAnyH_take (i := 68) (v := ?_) rfl (by kernel_rfl) (by kernel_rfl) (by kernel_rfl) (fun _ _ _ h => h) (Or.inl ⟨by rfl, ?_⟩) (by assumption) ?_
          rotate_left
          · (intro w' hSw; go_simp; try with_reducible rfl)
          (try simp only [List.getElem_toArray]); (try simp only [List.getElem_cons_succ]); (try simp only [List.getElem_cons_zero]); (try simp only [Act.put]); (try simp only [List.setIfInBounds_toArray]); (try simp only [List.set_cons_succ]); (try simp only [List.set_cons_zero])
          refine wpAnyH_take (i := 69) (v := ?_) rfl (by kernel_rfl) (by kernel_rfl) (by kernel_rfl) (fun _ _ _ h => h) (Or.inl ⟨by rfl, ?_⟩) (by assumption) ?_
          rotate_left
          · (intro w' hSw; go_simp; try with_reducible rfl)
          (try simp only [List.getElem_toArray]); (try simp only [List.getElem_cons_succ]); (try simp only [List.getElem_cons_zero]); (try simp only [Act.put]); (try simp only [List.setIfInBounds_toArray]); (try simp only [List.set_cons_succ]); (try simp only [List.set_cons_zero])
          refine wpAnyH_done (by kernel_rfl) ?_ _
          have hU60 := hV17
          have hwE := Up.then_ hw35 hU60
        all_goals
          go_wp2
          go_ret
          exact ⟨rfl, hwE⟩
  · go_enter Tryz.func4, Tryz.ntmps4
    go_wp2_with fail
    refine (big_yes B n c _ (by omega) hn).mono ?_
    rintro e w1 ⟨rfl, hb1⟩
    have hU1 : Up w w1 := Up.then_ (by go_grown) hb1
    go_wp2
    go_ret
    exact ⟨rfl, hU1⟩
end Go.Proofs.YthncdjcmlpiebaaGreatDoor
