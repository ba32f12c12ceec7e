/- The law FnProper: its walk. -/
import Derived.Test.YthncdjcmlpiebaaGreatQp18
import Derived.Test.YthncdjcmlpiebaaGreatQp19
import Derived.Test.YthncdjcmlpiebaaGreatQp21
import Derived.Test.YthncdjcmlpiebaaGreatQp22
import Derived.Test.YthncdjcmlpiebaaGreatQp23
namespace Go.Proofs.YthncdjcmlpiebaaGreat
open Go.RowKit
set_option maxRecDepth 100000 in
/-- What the law asks of a drawn graph. -/
theorem proper_facts {N : Int} {X : List Int} (h6 : le6L N X) :
    ((isGraph N X = true ∧ (umbOf N X).isSome = true ∧ (prObsOf N X).isSome = false) ∨ (isGraph N X = true ∧ (umbOf N X).isSome = false ∧ (prObsOf N X).isSome = true) ∨ (isGraph N X = false ∧ (umbOf N X).isSome = false ∧ (prObsOf N X).isSome = false)) ∧
    ((prObsOf N X).isSome = true → isPrObs N X (optL (prObsOf N X)) = true) ∧
    ((umbOf N X).isSome = true → isUmb N X (optL (umbOf N X)) = true ∧ isUnitModel (unitOf N X).1 (unitOf N X).2.1 7 = true ∧ isModelOf N X (unitOf N X).1 (unitOf N X).2.1 = true ∧ ∃ k : Nat, k ≤ 127 ∧ bandOf N X (optL (umbOf N X)) = (k : Int) ∧ ofGraph N X (-1) cliqueNumber = (k : Int) + 1) := by
  refine ⟨?_, fun e => ?_, fun e => ?_⟩
  · rcases Bool.eq_false_or_eq_true (isGraph N X) with hg | hg
    · have := pr_law hg h6
      cases hu : (umbOf N X).isSome
      · rw [hu] at this
        exact .inr (.inl ⟨hg, rfl, this⟩)
      · rw [hu] at this
        exact .inl ⟨hg, rfl, this⟩
    · refine .inr (.inr ⟨hg, by rw [umbOf_no hg]; rfl, ?_⟩)
      rw [prObsOf, clawOf_no hg, ivObsOf, holeOf_no hg, tripOf_no hg]; rfl
  · obtain ⟨p, hp⟩ := Option.isSome_iff_exists.1 e
    have := prObs_holds hp
    rw [hp]; exact this
  · obtain ⟨o, ho⟩ := Option.isSome_iff_exists.1 e
    obtain ⟨h1, h2⟩ := unit_model ho
    obtain ⟨n, Q, rfl, rfl, h, hv, hl, hub⟩ := umbOf_spec ho
    obtain ⟨hI, hU⟩ := umb_ordI h hl hub
    have h3 := umb_band h hv hl hI hU
    have hiu := (umb_band_law ho).1
    rw [ho]
    refine ⟨hiu, h1, h2, bandI Q o n, ?_, ?_, ?_⟩
    · have := h.le
      have h4 : card (bestK (clq Q) (2 ^ n - 1)) ≤ 7 := listOf_len _
      omega
    · show bandOf n (ints Q) (ints o) = _
      rw [bandOf_ok (isOrder_nat h hv hl), hl]
    · rw [ofGraph_ok h, cliqueNumber]; omega
set_option maxRecDepth 100000 in
theorem unit_len (N : Int) (X : List Int) : (unitOf N X).1.length ≤ 7 ∧ (unitOf N X).2.1.length ≤ 7 := by
  rcases hu : umbOf N X with _ | o
  · rw [unitOf_none hu]; simp
  · obtain ⟨n, Q, rfl, rfl, h, _⟩ := umbOf_spec hu
    have := h.le
    rw [unitOf_some hu]
    show (ints (unitL Q o n)).length ≤ 7 ∧ (ints (unitR Q o n)).length ≤ 7
    rw [ints_len, ints_len, unitL_len, unitR_len]
    omega
set_option maxRecDepth 100000 in
set_option maxHeartbeats 8000000 in
theorem lawProper_any (B : Option Addr) (n c : Nat) (bs : List Int) (w : World) (hB : RB w B n bs) (hlow : ∀ ad, B = some ad → ad.block < w.heap.size) (hn : n ≤ 9223372036854775807) :
    Calls Tryz.prog 3 #[.slice B n c] w fun e w' => e = .returned (.bool true) ∧ Below w.heap.size w w' := by
  by_cases hs : n ≤ 1048576
  · go_enter Tryz.func3, Tryz.ntmps3
    go_wp2_with fail
    refine (big_no B n c _ hs).mono ?_
    rintro e w1 ⟨rfl, hb1⟩
    have hU1 : Up w w1 := Up.then_ (by go_grown) hb1
    replace hB := hB.up hU1
    have hlow1 : ∀ ad, B = some ad → ad.block < w1.heap.size := fun ad e => by have := hlow ad e; have := hU1.size; omega
    have hw1 : Below w.heap.size w w1 := hU1
    go_wp2_with fail
    refine (drawUmbrellaOf_any B n c bs _ hB hs hlow1).mono ?_
    rintro e w2 ⟨N, A, m, d, X, rfl, hX, hle, hb2⟩
    have hU2 : Up w1 w2 := Up.then_ (by go_grown) hb2
    replace hB := hB.up hU2
    have hw2 := Up.then_ hw1 hU2
    have hm7 : m ≤ 7 := by rw [← hX.len]; exact le6L_len hle
    replace hX := hX.ri
    clear hU1 hb1 hlow1
    have hU3 : Up w2 (w2.alloc (.cells #[.int .i64 N, .slice A m d] 26)) := by go_grown
    have hG := Blk.new w2 26 #[.int .i64 N, .slice A m d]
    have hw3 := Up.then_ hw2 hU3
    replace hX := hX.up hU3
    replace hB := hB.up hU3
    obtain ⟨g3, hg3⟩ : ∃ g3, g3 = w2.heap.size := ⟨_, rfl⟩
    rw [← hg3] at hG
    go_wp2_with fail
    rw [← hg3]
    generalize w2.alloc (.cells #[.int .i64 N, .slice A m d] 26) = w3 at hG hX hB hw3 ⊢
    clear hg3 hU3
    have yhG := hG.two
    have lhG := hG.lt
    clear hU2 hb2 hw1 hw2
    have hFA := proper_facts hle
    have hll := umb_len7 N X
    have hul := unit_len N X
    have hpl := prObs_len7 N X
    have hone := unit_some N X
    clear hle
    obtain ⟨l, hl⟩ : ∃ l, l = optL (umbOf N X) := ⟨_, rfl⟩
    obtain ⟨is, his⟩ : ∃ is, is = (umbOf N X).isSome := ⟨_, rfl⟩
    obtain ⟨ul, hul1⟩ : ∃ ul, ul = (unitOf N X).1 := ⟨_, rfl⟩
    obtain ⟨ur, hur1⟩ : ∃ ur, ur = (unitOf N X).2.1 := ⟨_, rfl⟩
    obtain ⟨ob, hob⟩ : ∃ ob, ob = optL (prObsOf N X) := ⟨_, rfl⟩
    obtain ⟨bad, hbad⟩ : ∃ bad, bad = (prObsOf N X).isSome := ⟨_, rfl⟩
    obtain ⟨ig, hig⟩ : ∃ ig, ig = isGraph N X := ⟨_, rfl⟩
    rw [← his] at hone
    have HUimpl : ∀ w', RI w' A m X → Calls Tryz.prog 7 #[.agg #[.int .i64 N, .slice A m d]] w' (GivesIB l is w') := fun w' h => by rw [hl, his]; exact implUmbrellaOf_any N A m d X w' h (by omega)
    have HMimpl : ∀ w', RI w' A m X → Calls Tryz.prog 9 #[.agg #[.int .i64 N, .slice A m d]] w' (GivesTB ul ur is w') := fun w' h => by rw [hul1, hur1, ← hone]; exact implUnitModelOf_any N A m d X w' h (by omega)
    have HOimpl : ∀ w', RI w' A m X → Calls Tryz.prog 11 #[.agg #[.int .i64 N, .slice A m d]] w' (GivesIB ob bad w') := fun w' h => by rw [hob, hbad]; exact implProperObstacle_any N A m d X w' h (by omega)
    have HUspec : ∀ w', RI w' A m X → Calls Tryz.prog 8 #[.agg #[.int .i64 N, .slice A m d]] w' (GivesIB l is w') := fun w' h => by rw [hl, his]; exact specUmbrellaOf_any N A m d X w' h (by omega)
    have HMspec : ∀ w', RI w' A m X → Calls Tryz.prog 10 #[.agg #[.int .i64 N, .slice A m d]] w' (GivesTB ul ur is w') := fun w' h => by rw [hul1, hur1, ← hone]; exact specUnitModelOf_any N A m d X w' h (by omega)
    have HOspec : ∀ w', RI w' A m X → Calls Tryz.prog 12 #[.agg #[.int .i64 N, .slice A m d]] w' (GivesIB ob bad w') := fun w' h => by rw [hob, hbad]; exact specProperObstacle_any N A m d X w' h (by omega)
    have HP : ∀ w', RI w' A m X → Calls Tryz.prog 15 #[.agg #[.int .i64 N, .slice A m d]] w' (fun e w'' => e = .returned (.bool is) ∧ Below w'.heap.size w' w'') := fun w' h => by rw [his]; exact implIsProper_any N A m d X w' h (by omega)
    have HI : ∀ w', RI w' A m X → Calls Tryz.prog 16 #[.agg #[.int .i64 N, .slice A m d]] w' (fun e w'' => e = .returned (.bool ig) ∧ Below w'.heap.size w' w'') := fun w' h => by rw [hig]; exact specIsGraph_any N A m d X w' h (by omega)
    rw [← hl] at hll hFA
    rw [← hob] at hpl hFA
    rw [← hul1, ← hur1] at hul hFA
    rw [← his, ← hbad, ← hig] at hFA
    have HFA := Lib.hid hFA
    clear hl his hul1 hur1 hob hbad hig hone hFA
    go_wp2_with fail
    refine (HUimpl _ hX).mono ?_
    rintro e w4 ⟨A4, c4, rfl, hO4, hb4⟩
    have hU4 : Up w3 w4 := Up.then_ (by go_grown) hb4
    replace hB := hB.up hU4
    replace hX := hX.up hU4
    replace hG := hG.up hU4
    replace yhG := hG.two
    replace lhG := hG.lt
    have hw4 := Up.then_ hw3 hU4
    replace hO4 := hO4.ri
    replace yhG := hG.two
    replace lhG := hG.lt
    go_wp2_with fail
    refine (HUspec _ hX).mono ?_
    rintro e w5 ⟨A5, c5, rfl, hO5, hb5⟩
    have hU5 : Up w4 w5 := Up.then_ (by go_grown) hb5
    replace hB := hB.up hU5
    replace hX := hX.up hU5
    replace hG := hG.up hU5
    replace hO4 := hO4.up hU5
    replace yhG := hG.two
    replace lhG := hG.lt
    have hw5 := Up.then_ hw4 hU5
    have hcap5 := hO5.cap
    replace hO5 := hO5.ri
    replace yhG := hG.two
    replace lhG := hG.lt
    clear HUimpl HUspec hU4 hU5 hb4 hb5 hw3 hw4
    go_wp2_with fail
    refine (HMimpl _ hX).mono ?_
    rintro e w6 ⟨A6, c6, C6, d6, rfl, hP6, hQ6, hap6, hb6⟩
    have hU6 : Up w5 w6 := Up.then_ (by go_grown) hb6
    replace hB := hB.up hU6
    replace hX := hX.up hU6
    replace hG := hG.up hU6
    replace hO4 := hO4.up hU6
    replace hO5 := hO5.up hU6
    replace yhG := hG.two
    replace lhG := hG.lt
    have hw6 := Up.then_ hw5 hU6
    replace hP6 := hP6.ri
    replace hQ6 := hQ6.ri
    clear hap6
    have hU7 : Up w6 (w6.alloc (.cells #[.slice A6 ul.length c6, .slice C6 ur.length d6] 31)) := by go_grown
    have hG7 := Blk.new w6 31 #[.slice A6 ul.length c6, .slice C6 ur.length d6]
    have hw7 := Up.then_ hw6 hU7
    replace hX := hX.up hU7
    replace hB := hB.up hU7
    replace hG := hG.up hU7
    replace hO4 := hO4.up hU7
    replace hO5 := hO5.up hU7
    replace hP6 := hP6.up hU7
    replace hQ6 := hQ6.up hU7
    obtain ⟨g7, hg7⟩ : ∃ g7, g7 = w6.heap.size := ⟨_, rfl⟩
    rw [← hg7] at hG7
    go_wp2_with fail
    rw [← hg7]
    generalize w6.alloc (.cells #[.slice A6 ul.length c6, .slice C6 ur.length d6] 31) = w7 at hG7 hX hB hG hO4 hO5 hP6 hQ6 hw7 ⊢
    clear hg7 hU7
    have yhG := hG.two
    have lhG := hG.lt
    have yhG7 := hG7.two
    have lhG7 := hG7.lt
    clear hU6 hb6 hw5 hw6
    go_wp2_with fail
    refine (HMspec _ hX).mono ?_
    rintro e w8 ⟨A8, c8, C8, d8, rfl, hP8, hQ8, hap8, hb8⟩
    have hU8 : Up w7 w8 := Up.then_ (by go_grown) hb8
    replace hB := hB.up hU8
    replace hX := hX.up hU8
    replace hG := hG.up hU8
    replace hO4 := hO4.up hU8
    replace hO5 := hO5.up hU8
    replace hG7 := hG7.up hU8
    replace hP6 := hP6.up hU8
    replace hQ6 := hQ6.up hU8
    replace yhG := hG.two
    replace lhG := hG.lt
    replace yhG7 := hG7.two
    replace lhG7 := hG7.lt
    have hw8 := Up.then_ hw7 hU8
    replace hP8 := hP8.ri
    replace hQ8 := hQ8.ri
    clear hap8
    have hU9 : Up w8 (w8.alloc (.cells #[.slice A8 ul.length c8, .slice C8 ur.length d8] 31)) := by go_grown
    have hG9 := Blk.new w8 31 #[.slice A8 ul.length c8, .slice C8 ur.length d8]
    have hw9 := Up.then_ hw8 hU9
    replace hX := hX.up hU9
    replace hB := hB.up hU9
    replace hG := hG.up hU9
    replace hO4 := hO4.up hU9
    replace hO5 := hO5.up hU9
    replace hP6 := hP6.up hU9
    replace hQ6 := hQ6.up hU9
    replace hG7 := hG7.up hU9
    replace hP8 := hP8.up hU9
    replace hQ8 := hQ8.up hU9
    obtain ⟨g9, hg9⟩ : ∃ g9, g9 = w8.heap.size := ⟨_, rfl⟩
    rw [← hg9] at hG9
    go_wp2_with fail
    rw [← hg9]
    generalize w8.alloc (.cells #[.slice A8 ul.length c8, .slice C8 ur.length d8] 31) = w9 at hG9 hX hB hG hO4 hO5 hP6 hQ6 hG7 hP8 hQ8 hw9 ⊢
    clear hg9 hU9
    have yhG := hG.two
    have lhG := hG.lt
    have yhG7 := hG7.two
    have lhG7 := hG7.lt
    have yhG9 := hG9.two
    have lhG9 := hG9.lt
    clear hU8 hb8 hw7 hw8 HMimpl HMspec
    go_wp2_with fail
    refine (HOimpl _ hX).mono ?_
    rintro e w10 ⟨A10, c10, rfl, hO10, hb10⟩
    have hU10 : Up w9 w10 := Up.then_ (by go_grown) hb10
    replace hB := hB.up hU10
    replace hX := hX.up hU10
    replace hG := hG.up hU10
    replace hO4 := hO4.up hU10
    replace hO5 := hO5.up hU10
    replace hG7 := hG7.up hU10
    replace hP6 := hP6.up hU10
    replace hQ6 := hQ6.up hU10
    replace hG9 := hG9.up hU10
    replace hP8 := hP8.up hU10
    replace hQ8 := hQ8.up hU10
    replace yhG := hG.two
    replace lhG := hG.lt
    replace yhG7 := hG7.two
    replace lhG7 := hG7.lt
    replace yhG9 := hG9.two
    replace lhG9 := hG9.lt
    have hw10 := Up.then_ hw9 hU10
    replace hO10 := hO10.ri
    replace yhG := hG.two
    replace lhG := hG.lt
    replace yhG7 := hG7.two
    replace lhG7 := hG7.lt
    replace yhG9 := hG9.two
    replace lhG9 := hG9.lt
    go_wp2_with fail
    refine (HOspec _ hX).mono ?_
    rintro e w11 ⟨A11, c11, rfl, hO11, hb11⟩
    have hU11 : Up w10 w11 := Up.then_ (by go_grown) hb11
    replace hB := hB.up hU11
    replace hX := hX.up hU11
    replace hG := hG.up hU11
    replace hO4 := hO4.up hU11
    replace hO5 := hO5.up hU11
    replace hG7 := hG7.up hU11
    replace hP6 := hP6.up hU11
    replace hQ6 := hQ6.up hU11
    replace hG9 := hG9.up hU11
    replace hP8 := hP8.up hU11
    replace hQ8 := hQ8.up hU11
    replace hO10 := hO10.up hU11
    replace yhG := hG.two
    replace lhG := hG.lt
    replace yhG7 := hG7.two
    replace lhG7 := hG7.lt
    replace yhG9 := hG9.two
    replace lhG9 := hG9.lt
    have hw11 := Up.then_ hw10 hU11
    have hcap11 := hO11.cap
    replace hO11 := hO11.ri
    replace yhG := hG.two
    replace lhG := hG.lt
    replace yhG7 := hG7.two
    replace lhG7 := hG7.lt
    replace yhG9 := hG9.two
    replace lhG9 := hG9.lt
    clear HOimpl HOspec hU10 hU11 hb10 hb11 hw9 hw10
    go_wp2_with fail
    refine (sameInts_up hO4 hO5 (by omega)).mono ?_
    rintro e w12 ⟨rfl, hb12⟩
    have hU12 : Up w11 w12 := Up.then_ (by go_grown) hb12
    replace hB := hB.up hU12
    replace hX := hX.up hU12
    replace hG := hG.up hU12
    replace hO4 := hO4.up hU12
    replace hO5 := hO5.up hU12
    replace hG7 := hG7.up hU12
    replace hP6 := hP6.up hU12
    replace hQ6 := hQ6.up hU12
    replace hG9 := hG9.up hU12
    replace hP8 := hP8.up hU12
    replace hQ8 := hQ8.up hU12
    replace hO10 := hO10.up hU12
    replace hO11 := hO11.up hU12
    replace yhG := hG.two
    replace lhG := hG.lt
    replace yhG7 := hG7.two
    replace lhG7 := hG7.lt
    replace yhG9 := hG9.two
    replace lhG9 := hG9.lt
    have hw12 := Up.then_ hw11 hU12
    go_wp2_with fail
    refine (sameModel_up hP6 hQ6 hP8 hQ8 (by omega) (by omega)).mono ?_
    rintro e w13 ⟨rfl, hb13⟩
    have hU13 : Up w12 w13 := Up.then_ (by go_grown) hb13
    replace hB := hB.up hU13
    replace hX := hX.up hU13
    replace hG := hG.up hU13
    replace hO4 := hO4.up hU13
    replace hO5 := hO5.up hU13
    replace hG7 := hG7.up hU13
    replace hP6 := hP6.up hU13
    replace hQ6 := hQ6.up hU13
    replace hG9 := hG9.up hU13
    replace hP8 := hP8.up hU13
    replace hQ8 := hQ8.up hU13
    replace hO10 := hO10.up hU13
    replace hO11 := hO11.up hU13
    replace yhG := hG.two
    replace lhG := hG.lt
    replace yhG7 := hG7.two
    replace lhG7 := hG7.lt
    replace yhG9 := hG9.two
    replace lhG9 := hG9.lt
    have hw13 := Up.then_ hw12 hU13
    go_wp2_with fail
    refine (sameInts_up hO10 hO11 (by omega)).mono ?_
    rintro e w14 ⟨rfl, hb14⟩
    have hU14 : Up w13 w14 := Up.then_ (by go_grown) hb14
    replace hB := hB.up hU14
    replace hX := hX.up hU14
    replace hG := hG.up hU14
    replace hO4 := hO4.up hU14
    replace hO5 := hO5.up hU14
    replace hG7 := hG7.up hU14
    replace hP6 := hP6.up hU14
    replace hQ6 := hQ6.up hU14
    replace hG9 := hG9.up hU14
    replace hP8 := hP8.up hU14
    replace hQ8 := hQ8.up hU14
    replace hO10 := hO10.up hU14
    replace hO11 := hO11.up hU14
    replace yhG := hG.two
    replace lhG := hG.lt
    replace yhG7 := hG7.two
    replace lhG7 := hG7.lt
    replace yhG9 := hG9.two
    replace lhG9 := hG9.lt
    have hw14 := Up.then_ hw13 hU14
    go_wp2_with fail
    refine (HP _ hX).mono ?_
    rintro e w15 ⟨rfl, hb15⟩
    have hU15 : Up w14 w15 := Up.then_ (by go_grown) hb15
    replace hB := hB.up hU15
    replace hX := hX.up hU15
    replace hG := hG.up hU15
    replace hO4 := hO4.up hU15
    replace hO5 := hO5.up hU15
    replace hG7 := hG7.up hU15
    replace hP6 := hP6.up hU15
    replace hQ6 := hQ6.up hU15
    replace hG9 := hG9.up hU15
    replace hP8 := hP8.up hU15
    replace hQ8 := hQ8.up hU15
    replace hO10 := hO10.up hU15
    replace hO11 := hO11.up hU15
    replace yhG := hG.two
    replace lhG := hG.lt
    replace yhG7 := hG7.two
    replace lhG7 := hG7.lt
    replace yhG9 := hG9.two
    replace lhG9 := hG9.lt
    have hw15 := Up.then_ hw14 hU15
    clear HP hU12 hU13 hU14 hU15 hb12 hb13 hb14 hb15 hw11 hw12 hw13 hw14 hO4 hG7 yhG7 lhG7 hP6 hQ6 hO10
    go_wp2_with fail
    refine (HI _ hX).mono ?_
    rintro e w16 ⟨rfl, hb16⟩
    have hU16 : Up w15 w16 := Up.then_ (by go_grown) hb16
    replace hB := hB.up hU16
    replace hX := hX.up hU16
    replace hG := hG.up hU16
    replace hO5 := hO5.up hU16
    replace hG9 := hG9.up hU16
    replace hP8 := hP8.up hU16
    replace hQ8 := hQ8.up hU16
    replace hO11 := hO11.up hU16
    replace yhG := hG.two
    replace lhG := hG.lt
    replace yhG9 := hG9.two
    replace lhG9 := hG9.lt
    have hw16 := Up.then_ hw15 hU16
    clear HI hU16 hb16 hw15
    obtain ⟨hcs, hpo, hum⟩ := HFA.out
    clear HFA
    rcases hcs with ⟨rfl, rfl, rfl⟩ | ⟨rfl, rfl, rfl⟩ | ⟨rfl, rfl, rfl⟩
    · obtain ⟨a1, a2, a3, k, hk, a4, a5⟩ := hum rfl
      clear hpo hum hO11
      have JU : ∀ w', RI w' A m X → RI w' A5 l.length l → Calls Tryz.prog 18 #[.agg #[.int .i64 N, .slice A m d], .slice A5 l.length c5] w' (fun e w'' => e = .returned (.bool true) ∧ Below w'.heap.size w' w'') := fun w' h h2 => by rw [← a1]; exact implIsUmbrella_cap N A A5 m d l.length c5 X l w' h h2 (by omega) (by omega) hcap5.1 hcap5.2
      have JM : ∀ w', RI w' A8 ul.length ul → RI w' C8 ur.length ur → Calls Tryz.prog 19 #[.agg #[.slice A8 ul.length c8, .slice C8 ur.length d8], .int .i64 7] w' (fun e w'' => e = .returned (.bool true) ∧ Below w'.heap.size w' w'') := fun w' h h2 => by rw [← a2]; exact implIsUnitModel_any A8 C8 ul.length ur.length c8 d8 ul ur 7 w' h h2 (by omega) (by omega)
      have JO : ∀ w', RI w' A m X → RI w' A8 ul.length ul → RI w' C8 ur.length ur → Calls Tryz.prog 20 #[.agg #[.int .i64 N, .slice A m d], .agg #[.slice A8 ul.length c8, .slice C8 ur.length d8]] w' (fun e w'' => e = .returned (.bool true) ∧ Below w'.heap.size w' w'') := fun w' h0 h h2 => by rw [← a3]; exact implIsModelOf_any N A m d X A8 C8 ul.length ur.length c8 d8 ul ur w' h0 h h2 (by omega) (by omega)
      have JB : ∀ w', RI w' A m X → RI w' A5 l.length l → Calls Tryz.prog 21 #[.agg #[.int .i64 N, .slice A m d], .slice A5 l.length c5] w' (fun e w'' => e = .returned (.int .i64 (k : Nat)) ∧ Below w'.heap.size w' w'') := fun w' h h2 => by rw [← a4]; exact implBandOf_any N A A5 m d l.length c5 X l w' h h2 (by omega) (by omega) hcap5.1
      obtain ⟨z, hz⟩ : ∃ z : Int, z = (k : Int) + 1 := ⟨_, rfl⟩
      have JC : ∀ w', RI w' A m X → Calls Tryz.prog 22 #[.agg #[.int .i64 N, .slice A m d]] w' (fun e w'' => e = .returned (.int .i64 z) ∧ Below w'.heap.size w' w'') := fun w' h => by rw [hz, ← a5]; exact specCliqueNumber_any N A m d X w' h (by omega)
      have hwr : IntKind.i64.wrap (z - 1) = ((k : Nat) : Int) := by rw [hz, show (k : Int) + 1 - 1 = (k : Int) by omega, IntWalk.i64_left]; exact IntWalk.wrap64_in _ (by omega)
      have hmx : max (0 : Int) ((k : Nat) : Int) = ((k : Nat) : Int) := by omega
      clear a1 a2 a3 a4 a5 hz
      go_wp2_with fail
      have hV0 : Up w16 w16.drew := (Up.refl _).drew
      refine wp_region_held_drew (S := (fun w' => Up w16 w' ∧ (∀ b o, b < w16.heap.size → w'.cell? ⟨b, o, none⟩ = w16.cell? ⟨b, o, none⟩))) (by kernel_rfl) (by exact ⟨hV0, fun _ _ hb => hV0.cell hb⟩) (fun hHeld => ?_)
      refine wpAnyH_take (i := 0) (v := ?_) rfl (by kernel_rfl) (by kernel_rfl) (by kernel_rfl) (fun _ _ _ h => h) (Or.inl ⟨by rfl, ?_⟩) (by assumption) ?_
      rotate_left
      · (intro w' hSw; go_simp; try with_reducible rfl)
      (try simp only [List.getElem_toArray]); (try simp only [List.getElem_cons_succ]); (try simp only [List.getElem_cons_zero]); (try simp only [Act.put]); (try simp only [List.setIfInBounds_toArray]); (try simp only [List.set_cons_succ]); (try simp only [List.set_cons_zero])
      refine wpAnyH_take (i := 1) (v := ?_) rfl (by kernel_rfl) (by kernel_rfl) (by kernel_rfl) (fun _ _ _ h => h) (Or.inl ⟨by rfl, ?_⟩) (by assumption) ?_
      rotate_left
      · (intro w' hSw; go_simp; try with_reducible rfl)
      (try simp only [List.getElem_toArray]); (try simp only [List.getElem_cons_succ]); (try simp only [List.getElem_cons_zero]); (try simp only [Act.put]); (try simp only [List.setIfInBounds_toArray]); (try simp only [List.set_cons_succ]); (try simp only [List.set_cons_zero])
      refine wpAnyH_take (i := 2) (v := ?_) rfl (by kernel_rfl) (by kernel_rfl) (by kernel_rfl) (fun _ _ _ h => h) (Or.inl ⟨by rfl, ?_⟩) (by assumption) ?_
      rotate_left
      · (intro w' hSw; go_simp; try with_reducible rfl)
      (try simp only [List.getElem_toArray]); (try simp only [List.getElem_cons_succ]); (try simp only [List.getElem_cons_zero]); (try simp only [Act.put]); (try simp only [List.setIfInBounds_toArray]); (try simp only [List.set_cons_succ]); (try simp only [List.set_cons_zero])
      refine wpAnyH_take (i := 3) (v := ?_) rfl (by kernel_rfl) (by kernel_rfl) (by kernel_rfl) (fun _ _ _ h => h) (Or.inl ⟨by rfl, ?_⟩) (by assumption) ?_
      rotate_left
      · (intro w' hSw; go_simp; try with_reducible rfl)
      (try simp only [List.getElem_toArray]); (try simp only [List.getElem_cons_succ]); (try simp only [List.getElem_cons_zero]); (try simp only [Act.put]); (try simp only [List.setIfInBounds_toArray]); (try simp only [List.set_cons_succ]); (try simp only [List.set_cons_zero])
      refine wpAnyH_ready (rs := [4]) (by kernel_rfl) (by simp) ?_
      refine AllReadyH.cons rfl (fun K hK => ?_) AllReadyH.nil
      go_simp
      go_at_call 18
      refine (JU _ (hX.up hV0) (hO5.up hV0)).mono ?_
      rintro e w200 ⟨rfl, hb200⟩
      have hV1 := Up.then_ hV0 hb200
      go_wp2_with fail
      refine hK.out _ _ (by exact ⟨hV1, fun _ _ hb => hV1.cell hb⟩) (fun hHeld1 => ?_)
      clear hK K
      (try simp only [List.getElem_toArray]); (try simp only [List.getElem_cons_succ]); (try simp only [List.getElem_cons_zero]); (try simp only [Act.put]); (try simp only [List.setIfInBounds_toArray]); (try simp only [List.set_cons_succ]); (try simp only [List.set_cons_zero])
      refine wpAnyH_take (i := 5) (v := ?_) rfl (by kernel_rfl) (by kernel_rfl) (by kernel_rfl) (fun _ _ _ h => h) (Or.inl ⟨by rfl, ?_⟩) (by assumption) ?_
      rotate_left
      · (intro w' hSw; go_simp; try with_reducible rfl)
      (try simp only [List.getElem_toArray]); (try simp only [List.getElem_cons_succ]); (try simp only [List.getElem_cons_zero]); (try simp only [Act.put]); (try simp only [List.setIfInBounds_toArray]); (try simp only [List.set_cons_succ]); (try simp only [List.set_cons_zero])
      refine wpAnyH_take (i := 6) (v := ?_) rfl (by kernel_rfl) (by kernel_rfl) (by kernel_rfl) (fun _ _ _ h => h) (Or.inl ⟨by rfl, ?_⟩) (by assumption) ?_
      rotate_left
      · (intro w' hSw; go_simp; try with_reducible rfl)
      (try simp only [List.getElem_toArray]); (try simp only [List.getElem_cons_succ]); (try simp only [List.getElem_cons_zero]); (try simp only [Act.put]); (try simp only [List.setIfInBounds_toArray]); (try simp only [List.set_cons_succ]); (try simp only [List.set_cons_zero])
      refine wpAnyH_take (i := 7) (v := ?_) rfl (by kernel_rfl) (by kernel_rfl) (by kernel_rfl) (fun _ _ _ h => h) (Or.inl ⟨by rfl, ?_⟩) (by assumption) ?_
      rotate_left
      · (intro w' hSw; go_simp; try with_reducible rfl)
      (try simp only [List.getElem_toArray]); (try simp only [List.getElem_cons_succ]); (try simp only [List.getElem_cons_zero]); (try simp only [Act.put]); (try simp only [List.setIfInBounds_toArray]); (try simp only [List.set_cons_succ]); (try simp only [List.set_cons_zero])
      refine wpAnyH_ready (rs := [8]) (by kernel_rfl) (by simp) ?_
      refine AllReadyH.cons rfl (fun K hK => ?_) AllReadyH.nil
      go_simp
      go_at_call 19
      refine (JM _ (hP8.up hV1) (hQ8.up hV1)).mono ?_
      rintro e w201 ⟨rfl, hb201⟩
      have hV2 := Up.then_ hV1 hb201
      go_wp2_with fail
      refine hK.out _ _ (by exact ⟨hV2, fun _ _ hb => hV2.cell hb⟩) (fun hHeld2 => ?_)
      clear hK K
      (try simp only [List.getElem_toArray]); (try simp only [List.getElem_cons_succ]); (try simp only [List.getElem_cons_zero]); (try simp only [Act.put]); (try simp only [List.setIfInBounds_toArray]); (try simp only [List.set_cons_succ]); (try simp only [List.set_cons_zero])
      refine wpAnyH_take (i := 9) (v := ?_) rfl (by kernel_rfl) (by kernel_rfl) (by kernel_rfl) (fun _ _ _ h => h) (Or.inl ⟨by rfl, ?_⟩) (by assumption) ?_
      rotate_left
      · (intro w' hSw; go_simp; try with_reducible rfl)
      (try simp only [List.getElem_toArray]); (try simp only [List.getElem_cons_succ]); (try simp only [List.getElem_cons_zero]); (try simp only [Act.put]); (try simp only [List.setIfInBounds_toArray]); (try simp only [List.set_cons_succ]); (try simp only [List.set_cons_zero])
      refine wpAnyH_take (i := 10) (v := ?_) rfl (by kernel_rfl) (by kernel_rfl) (by kernel_rfl) (fun _ _ _ h => h) (Or.inl ⟨by rfl, ?_⟩) (by assumption) ?_
      rotate_left
      · (intro w' hSw; go_simp; try with_reducible rfl)
      (try simp only [List.getElem_toArray]); (try simp only [List.getElem_cons_succ]); (try simp only [List.getElem_cons_zero]); (try simp only [Act.put]); (try simp only [List.setIfInBounds_toArray]); (try simp only [List.set_cons_succ]); (try simp only [List.set_cons_zero])
      refine wpAnyH_take (i := 11) (v := ?_) rfl (by kernel_rfl) (by kernel_rfl) (by kernel_rfl) (fun _ _ _ h => h) (Or.inl ⟨by rfl, ?_⟩) (by assumption) ?_
      rotate_left
      · (intro w' hSw; go_simp; try with_reducible rfl)
      (try simp only [List.getElem_toArray]); (try simp only [List.getElem_cons_succ]); (try simp only [List.getElem_cons_zero]); (try simp only [Act.put]); (try simp only [List.setIfInBounds_toArray]); (try simp only [List.set_cons_succ]); (try simp only [List.set_cons_zero])
      refine wpAnyH_take (i := 12) (v := ?_) rfl (by kernel_rfl) (by kernel_rfl) (by kernel_rfl) (fun _ _ _ h => h) (Or.inl ⟨by rfl, ?_⟩) (by assumption) ?_
      rotate_left
      · (intro w' hSw; go_simp; try with_reducible rfl)
      (try simp only [List.getElem_toArray]); (try simp only [List.getElem_cons_succ]); (try simp only [List.getElem_cons_zero]); (try simp only [Act.put]); (try simp only [List.setIfInBounds_toArray]); (try simp only [List.set_cons_succ]); (try simp only [List.set_cons_zero])
      refine wpAnyH_take (i := 13) (v := ?_) rfl (by kernel_rfl) (by kernel_rfl) (by kernel_rfl) (fun _ _ _ h => h) (Or.inl ⟨by rfl, ?_⟩) (by assumption) ?_
      rotate_left
      · (intro w' hSw; go_simp; try with_reducible rfl)
      (try simp only [List.getElem_toArray]); (try simp only [List.getElem_cons_succ]); (try simp only [List.getElem_cons_zero]); (try simp only [Act.put]); (try simp only [List.setIfInBounds_toArray]); (try simp only [List.set_cons_succ]); (try simp only [List.set_cons_zero])
      refine wpAnyH_ready (rs := [14]) (by kernel_rfl) (by simp) ?_
      refine AllReadyH.cons rfl (fun K hK => ?_) AllReadyH.nil
      go_simp
      go_at_call 20
      refine (JO _ (hX.up hV2) (hP8.up hV2) (hQ8.up hV2)).mono ?_
      rintro e w202 ⟨rfl, hb202⟩
      have hV3 := Up.then_ hV2 hb202
      go_wp2_with fail
      refine hK.out _ _ (by exact ⟨hV3, fun _ _ hb => hV3.cell hb⟩) (fun hHeld3 => ?_)
      clear hK K
      (try simp only [List.getElem_toArray]); (try simp only [List.getElem_cons_succ]); (try simp only [List.getElem_cons_zero]); (try simp only [Act.put]); (try simp only [List.setIfInBounds_toArray]); (try simp only [List.set_cons_succ]); (try simp only [List.set_cons_zero])
      refine wpAnyH_take (i := 15) (v := ?_) rfl (by kernel_rfl) (by kernel_rfl) (by kernel_rfl) (fun _ _ _ h => h) (Or.inl ⟨by rfl, ?_⟩) (by assumption) ?_
      rotate_left
      · (intro w' hSw; go_simp; try with_reducible rfl)
      (try simp only [List.getElem_toArray]); (try simp only [List.getElem_cons_succ]); (try simp only [List.getElem_cons_zero]); (try simp only [Act.put]); (try simp only [List.setIfInBounds_toArray]); (try simp only [List.set_cons_succ]); (try simp only [List.set_cons_zero])
      refine wpAnyH_take (i := 16) (v := ?_) rfl (by kernel_rfl) (by kernel_rfl) (by kernel_rfl) (fun _ _ _ h => h) (Or.inl ⟨by rfl, ?_⟩) (by assumption) ?_
      rotate_left
      · (intro w' hSw; go_simp; try with_reducible rfl)
      (try simp only [List.getElem_toArray]); (try simp only [List.getElem_cons_succ]); (try simp only [List.getElem_cons_zero]); (try simp only [Act.put]); (try simp only [List.setIfInBounds_toArray]); (try simp only [List.set_cons_succ]); (try simp only [List.set_cons_zero])
      refine wpAnyH_take (i := 17) (v := ?_) rfl (by kernel_rfl) (by kernel_rfl) (by kernel_rfl) (fun _ _ _ h => h) (Or.inl ⟨by rfl, ?_⟩) (by assumption) ?_
      rotate_left
      · (intro w' hSw; go_simp; try with_reducible rfl)
      (try simp only [List.getElem_toArray]); (try simp only [List.getElem_cons_succ]); (try simp only [List.getElem_cons_zero]); (try simp only [Act.put]); (try simp only [List.setIfInBounds_toArray]); (try simp only [List.set_cons_succ]); (try simp only [List.set_cons_zero])
      refine wpAnyH_take (i := 18) (v := ?_) rfl (by kernel_rfl) (by kernel_rfl) (by kernel_rfl) (fun _ _ _ h => h) (Or.inl ⟨by rfl, ?_⟩) (by assumption) ?_
      rotate_left
      · (intro w' hSw; go_simp; try with_reducible rfl)
      (try simp only [List.getElem_toArray]); (try simp only [List.getElem_cons_succ]); (try simp only [List.getElem_cons_zero]); (try simp only [Act.put]); (try simp only [List.setIfInBounds_toArray]); (try simp only [List.set_cons_succ]); (try simp only [List.set_cons_zero])
      refine wpAnyH_take (i := 19) (v := ?_) rfl (by kernel_rfl) (by kernel_rfl) (by kernel_rfl) (fun _ _ _ h => h) (Or.inl ⟨by rfl, ?_⟩) (by assumption) ?_
      rotate_left
      · (intro w' hSw; go_simp; try with_reducible rfl)
      (try simp only [List.getElem_toArray]); (try simp only [List.getElem_cons_succ]); (try simp only [List.getElem_cons_zero]); (try simp only [Act.put]); (try simp only [List.setIfInBounds_toArray]); (try simp only [List.set_cons_succ]); (try simp only [List.set_cons_zero])
      refine wpAnyH_take (i := 21) (v := ?_) rfl (by kernel_rfl) (by kernel_rfl) (by kernel_rfl) (fun _ _ _ h => h) (Or.inl ⟨by rfl, ?_⟩) (by assumption) ?_
      rotate_left
      · (intro w' hSw; go_simp; try with_reducible rfl)
      (try simp only [List.getElem_toArray]); (try simp only [List.getElem_cons_succ]); (try simp only [List.getElem_cons_zero]); (try simp only [Act.put]); (try simp only [List.setIfInBounds_toArray]); (try simp only [List.set_cons_succ]); (try simp only [List.set_cons_zero])
      refine wpAnyH_ready (rs := [20]) (by kernel_rfl) (by simp) ?_
      refine AllReadyH.cons rfl (fun K hK => ?_) AllReadyH.nil
      go_simp
      go_at_call 21
      refine (JB _ (hX.up hV3) (hO5.up hV3)).mono ?_
      rintro e w203 ⟨rfl, hb203⟩
      have hV4 := Up.then_ hV3 hb203
      go_wp2_with fail
      refine hK.out _ _ (by exact ⟨hV4, fun _ _ hb => hV4.cell hb⟩) (fun hHeld4 => ?_)
      clear hK K
      (try simp only [List.getElem_toArray]); (try simp only [List.getElem_cons_succ]); (try simp only [List.getElem_cons_zero]); (try simp only [Act.put]); (try simp only [List.setIfInBounds_toArray]); (try simp only [List.set_cons_succ]); (try simp only [List.set_cons_zero])
      refine wpAnyH_ready (rs := [22]) (by kernel_rfl) (by simp) ?_
      refine AllReadyH.cons rfl (fun K hK => ?_) AllReadyH.nil
      go_simp
      go_at_call 22
      refine (JC _ (hX.up hV4)).mono ?_
      rintro e w204 ⟨rfl, hb204⟩
      have hV5 := Up.then_ hV4 hb204
      go_wp2_with fail
      refine hK.out _ _ (by exact ⟨hV5, fun _ _ hb => hV5.cell hb⟩) (fun hHeld5 => ?_)
      clear hK K
      (try simp only [List.getElem_toArray]); (try simp only [List.getElem_cons_succ]); (try simp only [List.getElem_cons_zero]); (try simp only [Act.put]); (try simp only [List.setIfInBounds_toArray]); (try simp only [List.set_cons_succ]); (try simp only [List.set_cons_zero])
      refine wpAnyH_take (i := 23) (v := ?_) rfl (by kernel_rfl) (by kernel_rfl) (by kernel_rfl) (fun _ _ _ h => h) (Or.inl ⟨by rfl, ?_⟩) (by assumption) ?_
      rotate_left
      · (intro w' hSw; go_simp; try with_reducible rfl)
      (try simp only [List.getElem_toArray]); (try simp only [List.getElem_cons_succ]); (try simp only [List.getElem_cons_zero]); (try simp only [Act.put]); (try simp only [List.setIfInBounds_toArray]); (try simp only [List.set_cons_succ]); (try simp only [List.set_cons_zero])
      refine wpAnyH_take (i := 24) (v := ?_) rfl (by kernel_rfl) (by kernel_rfl) (by kernel_rfl) (fun _ _ _ h => h) (Or.inl ⟨by rfl, ?_⟩) (by assumption) ?_
      rotate_left
      · (intro w' hSw; go_simp; try with_reducible rfl)
      (try simp only [List.getElem_toArray]); (try simp only [List.getElem_cons_succ]); (try simp only [List.getElem_cons_zero]); (try simp only [Act.put]); (try simp only [List.setIfInBounds_toArray]); (try simp only [List.set_cons_succ]); (try simp only [List.set_cons_zero])
      refine wpAnyH_take (i := 25) (v := ?_) rfl (by kernel_rfl) (by kernel_rfl) (by kernel_rfl) (fun _ _ _ h => h) (Or.inl ⟨by rfl, ?_⟩) (by assumption) ?_
      rotate_left
      · (intro w' hSw; go_simp; try with_reducible rfl)
      (try simp only [List.getElem_toArray]); (try simp only [List.getElem_cons_succ]); (try simp only [List.getElem_cons_zero]); (try simp only [Act.put]); (try simp only [List.setIfInBounds_toArray]); (try simp only [List.set_cons_succ]); (try simp only [List.set_cons_zero])
      refine wpAnyH_take (i := 26) (v := ?_) rfl (by kernel_rfl) (by kernel_rfl) (by kernel_rfl) (fun _ _ _ h => h) (Or.inl ⟨by rfl, ?_⟩) (by assumption) ?_
      rotate_left
      · (intro w' hSw; go_simp; try with_reducible rfl)
      (try simp only [List.getElem_toArray]); (try simp only [List.getElem_cons_succ]); (try simp only [List.getElem_cons_zero]); (try simp only [Act.put]); (try simp only [List.setIfInBounds_toArray]); (try simp only [List.set_cons_succ]); (try simp only [List.set_cons_zero])
      refine wpAnyH_take (i := 27) (v := ?_) rfl (by kernel_rfl) (by kernel_rfl) (by kernel_rfl) (fun _ _ _ h => h) (Or.inl ⟨by rfl, ?_⟩) (by assumption) ?_
      rotate_left
      · (intro w' hSw; go_simp; try with_reducible rfl)
      (try simp only [List.getElem_toArray]); (try simp only [List.getElem_cons_succ]); (try simp only [List.getElem_cons_zero]); (try simp only [Act.put]); (try simp only [List.setIfInBounds_toArray]); (try simp only [List.set_cons_succ]); (try simp only [List.set_cons_zero])
      refine wpAnyH_done (by kernel_rfl) ?_ _
      have hU20 := hV5
      replace hB := hB.up hU20
      replace hX := hX.up hU20
      replace hG := hG.up hU20
      replace hO5 := hO5.up hU20
      replace hG9 := hG9.up hU20
      replace hP8 := hP8.up hU20
      replace hQ8 := hQ8.up hU20
      replace yhG := hG.two
      replace lhG := hG.lt
      replace yhG9 := hG9.two
      replace lhG9 := hG9.lt
      have hw20 := Up.then_ hw16 hU20
      clear hV0 hV1 hV2 hV3 hV4 hb200 hb201 hb202 hb203 hb204 hHeld hHeld1 hHeld2 hHeld3 hHeld4 hHeld5 hU20 hw16 JU JM JO JB JC hwr hmx hO5 hG9 hP8 hQ8
      clear hX hG yhG lhG
      have hlowT : ∀ ad, B = some ad → ad.block < w204.heap.size := fun ad e => by have := hlow ad e; have := hw20.size; omega
      go_wp2_with fail
      refine (drawIsUmbrella_any B n c bs _ hB hs hlowT).mono ?_
      rintro e w30 ⟨N2, P2, m2, d2, X2, L2, e2, xs, rfl, hP2, hle2, hL2, hl2, hb30⟩
      have hU30 : Up w204 w30 := Up.then_ (by go_grown) hb30
      replace hB := hB.up hU30
      have hw30 := Up.then_ hw20 hU30
      have hm2 : m2 ≤ 7 := by rw [← hP2.len]; exact le6L_len hle2
      have hcap2 := hL2.cap
      replace hP2 := hP2.ri
      replace hL2 := hL2.ri
      have hU31 : Up w30 (w30.alloc (.cells #[.int .i64 N2, .slice P2 m2 d2] 26)) := by go_grown
      have hG2 := Blk.new w30 26 #[.int .i64 N2, .slice P2 m2 d2]
      have hw31 := Up.then_ hw30 hU31
      replace hP2 := hP2.up hU31
      replace hL2 := hL2.up hU31
      replace hB := hB.up hU31
      obtain ⟨g31, hg31⟩ : ∃ g31, g31 = w30.heap.size := ⟨_, rfl⟩
      rw [← hg31] at hG2
      go_wp2_with fail
      rw [← hg31]
      generalize w30.alloc (.cells #[.int .i64 N2, .slice P2 m2 d2] 26) = w31 at hG2 hP2 hL2 hB hw31 ⊢
      have hlow31 : ∀ ad, B = some ad → ad.block < w31.heap.size := fun ad e => by have := hlow ad e; have := hw31.size; omega
      clear hg31 hU31
      refine (drawIsProperObstacle_any B n c bs _ hB hs hlow31).mono ?_
      rintro e w32 ⟨N3, P3, m3, d3, X3, L3, e3, ys, rfl, hP3, hle3, hL3, hl3, hb32⟩
      have hU32 : Up w31 w32 := hb32
      replace hB := hB.up hU32
      replace hP2 := hP2.up hU32
      replace hL2 := hL2.up hU32
      replace hG2 := hG2.up hU32
      have hw32 := Up.then_ hw31 hU32
      have hm3 : m3 ≤ 7 := by rw [← hP3.len]; exact le6L_len hle3
      have hcap3 := hL3.cap
      replace hP3 := hP3.ri
      replace hL3 := hL3.ri
      have hU33 : Up w32 (w32.alloc (.cells #[.int .i64 N3, .slice P3 m3 d3] 26)) := by go_grown
      have hG3 := Blk.new w32 26 #[.int .i64 N3, .slice P3 m3 d3]
      have hw33 := Up.then_ hw32 hU33
      replace hB := hB.up hU33
      replace hP2 := hP2.up hU33
      replace hL2 := hL2.up hU33
      replace hG2 := hG2.up hU33
      replace hP3 := hP3.up hU33
      replace hL3 := hL3.up hU33
      obtain ⟨g33, hg33⟩ : ∃ g33, g33 = w32.heap.size := ⟨_, rfl⟩
      rw [← hg33] at hG3
      go_wp2_with fail
      rw [← hg33]
      generalize w32.alloc (.cells #[.int .i64 N3, .slice P3 m3 d3] 26) = w33 at hG3 hB hP2 hL2 hG2 hP3 hL3 hw33 ⊢
      have hlow33 : ∀ ad, B = some ad → ad.block < w33.heap.size := fun ad e => by have := hlow ad e; have := hw33.size; omega
      clear hg33 hU33
      refine (drawBandOf_any B n c bs _ hB hs hlow33).mono ?_
      rintro e w34 ⟨N4, P4, m4, d4, X4, L4, e4, zs, rfl, hP4, hle4, hL4, hl4, hb34⟩
      have hU34 : Up w33 w34 := hb34
      replace hB := hB.up hU34
      replace hP2 := hP2.up hU34
      replace hL2 := hL2.up hU34
      replace hG2 := hG2.up hU34
      replace hP3 := hP3.up hU34
      replace hL3 := hL3.up hU34
      replace hG3 := hG3.up hU34
      have hw34 := Up.then_ hw33 hU34
      have hm4 : m4 ≤ 7 := by rw [← hP4.len]; exact le6L_len hle4
      have hcap4 := hL4.cap
      replace hP4 := hP4.ri
      replace hL4 := hL4.ri
      clear hB hlowT hlow31 hlow33
      have hU35 : Up w34 (w34.alloc (.cells #[.int .i64 N4, .slice P4 m4 d4] 26)) := by go_grown
      have hG4 := Blk.new w34 26 #[.int .i64 N4, .slice P4 m4 d4]
      have hw35 := Up.then_ hw34 hU35
      replace hP2 := hP2.up hU35
      replace hL2 := hL2.up hU35
      replace hG2 := hG2.up hU35
      replace hP3 := hP3.up hU35
      replace hL3 := hL3.up hU35
      replace hG3 := hG3.up hU35
      replace hP4 := hP4.up hU35
      replace hL4 := hL4.up hU35
      obtain ⟨g35, hg35⟩ : ∃ g35, g35 = w34.heap.size := ⟨_, rfl⟩
      rw [← hg35] at hG4
      go_wp2_with fail
      rw [← hg35]
      generalize w34.alloc (.cells #[.int .i64 N4, .slice P4 m4 d4] 26) = w35 at hG4 hP2 hL2 hG2 hP3 hL3 hG3 hP4 hL4 hw35 ⊢
      clear hg35 hU35
      have yhG2 := hG2.two
      have lhG2 := hG2.lt
      have yhG3 := hG3.two
      have lhG3 := hG3.lt
      have yhG4 := hG4.two
      have lhG4 := hG4.lt
      clear hw30 hw31 hw32 hw33 hw34 hU30 hU32 hU34 hb30 hb32 hb34 hle2 hle3 hle4
      have hV0 : Up w35 w35.drew := (Up.refl _).drew
      refine wp_region_held_drew (S := (fun w' => Up w35 w' ∧ (∀ b o, b < w35.heap.size → w'.cell? ⟨b, o, none⟩ = w35.cell? ⟨b, o, none⟩))) (by kernel_rfl) (by exact ⟨hV0, fun _ _ hb => hV0.cell hb⟩) (fun hHeld => ?_)
      refine wpAnyH_take (i := 0) (v := ?_) rfl (by kernel_rfl) (by kernel_rfl) (by kernel_rfl) (fun _ _ _ h => h) (Or.inl ⟨by rfl, ?_⟩) (by assumption) ?_
      rotate_left
      · (intro w' hSw; go_simp; try with_reducible rfl)
      (try simp only [List.getElem_toArray]); (try simp only [List.getElem_cons_succ]); (try simp only [List.getElem_cons_zero]); (try simp only [Act.put]); (try simp only [List.setIfInBounds_toArray]); (try simp only [List.set_cons_succ]); (try simp only [List.set_cons_zero])
      refine wpAnyH_take (i := 1) (v := ?_) rfl (by kernel_rfl) (by kernel_rfl) (by kernel_rfl) (fun _ _ _ h => h) (Or.inl ⟨by rfl, ?_⟩) (by assumption) ?_
      rotate_left
      · (intro w' hSw; go_simp; try with_reducible rfl)
      (try simp only [List.getElem_toArray]); (try simp only [List.getElem_cons_succ]); (try simp only [List.getElem_cons_zero]); (try simp only [Act.put]); (try simp only [List.setIfInBounds_toArray]); (try simp only [List.set_cons_succ]); (try simp only [List.set_cons_zero])
      refine wpAnyH_take (i := 3) (v := ?_) rfl (by kernel_rfl) (by kernel_rfl) (by kernel_rfl) (fun _ _ _ h => h) (Or.inl ⟨by rfl, ?_⟩) (by assumption) ?_
      rotate_left
      · (intro w' hSw; go_simp; try with_reducible rfl)
      (try simp only [List.getElem_toArray]); (try simp only [List.getElem_cons_succ]); (try simp only [List.getElem_cons_zero]); (try simp only [Act.put]); (try simp only [List.setIfInBounds_toArray]); (try simp only [List.set_cons_succ]); (try simp only [List.set_cons_zero])
      refine wpAnyH_take (i := 4) (v := ?_) rfl (by kernel_rfl) (by kernel_rfl) (by kernel_rfl) (fun _ _ _ h => h) (Or.inl ⟨by rfl, ?_⟩) (by assumption) ?_
      rotate_left
      · (intro w' hSw; go_simp; try with_reducible rfl)
      (try simp only [List.getElem_toArray]); (try simp only [List.getElem_cons_succ]); (try simp only [List.getElem_cons_zero]); (try simp only [Act.put]); (try simp only [List.setIfInBounds_toArray]); (try simp only [List.set_cons_succ]); (try simp only [List.set_cons_zero])
      refine wpAnyH_ready (rs := [2]) (by kernel_rfl) (by simp) ?_
      refine AllReadyH.cons rfl (fun K hK => ?_) AllReadyH.nil
      go_simp
      go_at_call 18
      refine (implIsUmbrella_cap N2 P2 L2 m2 d2 xs.length e2 X2 xs _ (hP2.up hV0) (hL2.up hV0) (by omega) (by omega) hcap2.1 hcap2.2).mono ?_
      rintro e w400 ⟨rfl, hb400⟩
      have hV1 := Up.then_ hV0 hb400
      go_wp2_with fail
      refine hK.out _ _ (by exact ⟨hV1, fun _ _ hb => hV1.cell hb⟩) (fun hHeld1 => ?_)
      clear hK K
      (try simp only [List.getElem_toArray]); (try simp only [List.getElem_cons_succ]); (try simp only [List.getElem_cons_zero]); (try simp only [Act.put]); (try simp only [List.setIfInBounds_toArray]); (try simp only [List.set_cons_succ]); (try simp only [List.set_cons_zero])
      refine wpAnyH_ready (rs := [5]) (by kernel_rfl) (by simp) ?_
      refine AllReadyH.cons rfl (fun K hK => ?_) AllReadyH.nil
      go_simp
      go_at_call 26
      refine (specIsUmbrella_cap N2 P2 L2 m2 d2 xs.length e2 X2 xs _ (hP2.up hV1) (hL2.up hV1) (by omega) (by omega) hcap2.1 hcap2.2).mono ?_
      rintro e w401 ⟨rfl, hb401⟩
      have hV2 := Up.then_ hV1 hb401
      go_wp2_with fail
      refine hK.out _ _ (by exact ⟨hV2, fun _ _ hb => hV2.cell hb⟩) (fun hHeld2 => ?_)
      clear hK K
      (try simp only [List.getElem_toArray]); (try simp only [List.getElem_cons_succ]); (try simp only [List.getElem_cons_zero]); (try simp only [Act.put]); (try simp only [List.setIfInBounds_toArray]); (try simp only [List.set_cons_succ]); (try simp only [List.set_cons_zero])
      refine wpAnyH_take (i := 6) (v := ?_) rfl (by kernel_rfl) (by kernel_rfl) (by kernel_rfl) (fun _ _ _ h => h) (Or.inl ⟨by rfl, ?_⟩) (by assumption) ?_
      rotate_left
      · (intro w' hSw; go_simp; try with_reducible rfl)
      (try simp only [List.getElem_toArray]); (try simp only [List.getElem_cons_succ]); (try simp only [List.getElem_cons_zero]); (try simp only [Act.put]); (try simp only [List.setIfInBounds_toArray]); (try simp only [List.set_cons_succ]); (try simp only [List.set_cons_zero])
      refine wpAnyH_take (i := 7) (v := ?_) rfl (by kernel_rfl) (by kernel_rfl) (by kernel_rfl) (fun _ _ _ h => h) (Or.inl ⟨by rfl, ?_⟩) (by assumption) ?_
      rotate_left
      · (intro w' hSw; go_simp; try with_reducible rfl)
      (try simp only [List.getElem_toArray]); (try simp only [List.getElem_cons_succ]); (try simp only [List.getElem_cons_zero]); (try simp only [Act.put]); (try simp only [List.setIfInBounds_toArray]); (try simp only [List.set_cons_succ]); (try simp only [List.set_cons_zero])
      refine wpAnyH_take (i := 8) (v := ?_) rfl (by kernel_rfl) (by kernel_rfl) (by kernel_rfl) (fun _ _ _ h => h) (Or.inl ⟨by rfl, ?_⟩) (by assumption) ?_
      rotate_left
      · (intro w' hSw; go_simp; try with_reducible rfl)
      (try simp only [List.getElem_toArray]); (try simp only [List.getElem_cons_succ]); (try simp only [List.getElem_cons_zero]); (try simp only [Act.put]); (try simp only [List.setIfInBounds_toArray]); (try simp only [List.set_cons_succ]); (try simp only [List.set_cons_zero])
      refine wpAnyH_take (i := 9) (v := ?_) rfl (by kernel_rfl) (by kernel_rfl) (by kernel_rfl) (fun _ _ _ h => h) (Or.inl ⟨by rfl, ?_⟩) (by assumption) ?_
      rotate_left
      · (intro w' hSw; go_simp; try with_reducible rfl)
      (try simp only [List.getElem_toArray]); (try simp only [List.getElem_cons_succ]); (try simp only [List.getElem_cons_zero]); (try simp only [Act.put]); (try simp only [List.setIfInBounds_toArray]); (try simp only [List.set_cons_succ]); (try simp only [List.set_cons_zero])
      refine wpAnyH_take (i := 11) (v := ?_) rfl (by kernel_rfl) (by kernel_rfl) (by kernel_rfl) (fun _ _ _ h => h) (Or.inl ⟨by rfl, ?_⟩) (by assumption) ?_
      rotate_left
      · (intro w' hSw; go_simp; try with_reducible rfl)
      (try simp only [List.getElem_toArray]); (try simp only [List.getElem_cons_succ]); (try simp only [List.getElem_cons_zero]); (try simp only [Act.put]); (try simp only [List.setIfInBounds_toArray]); (try simp only [List.set_cons_succ]); (try simp only [List.set_cons_zero])
      refine wpAnyH_take (i := 12) (v := ?_) rfl (by kernel_rfl) (by kernel_rfl) (by kernel_rfl) (fun _ _ _ h => h) (Or.inl ⟨by rfl, ?_⟩) (by assumption) ?_
      rotate_left
      · (intro w' hSw; go_simp; try with_reducible rfl)
      (try simp only [List.getElem_toArray]); (try simp only [List.getElem_cons_succ]); (try simp only [List.getElem_cons_zero]); (try simp only [Act.put]); (try simp only [List.setIfInBounds_toArray]); (try simp only [List.set_cons_succ]); (try simp only [List.set_cons_zero])
      refine wpAnyH_ready (rs := [10]) (by kernel_rfl) (by simp) ?_
      refine AllReadyH.cons rfl (fun K hK => ?_) AllReadyH.nil
      go_simp
      go_at_call 17
      refine (implIsPrObs_any N3 P3 L3 m3 d3 ys.length e3 X3 ys _ (hP3.up hV2) (hL3.up hV2) (by omega) (by omega) hcap3.1).mono ?_
      rintro e w402 ⟨rfl, hb402⟩
      have hV3 := Up.then_ hV2 hb402
      go_wp2_with fail
      refine hK.out _ _ (by exact ⟨hV3, fun _ _ hb => hV3.cell hb⟩) (fun hHeld3 => ?_)
      clear hK K
      (try simp only [List.getElem_toArray]); (try simp only [List.getElem_cons_succ]); (try simp only [List.getElem_cons_zero]); (try simp only [Act.put]); (try simp only [List.setIfInBounds_toArray]); (try simp only [List.set_cons_succ]); (try simp only [List.set_cons_zero])
      refine wpAnyH_ready (rs := [13]) (by kernel_rfl) (by simp) ?_
      refine AllReadyH.cons rfl (fun K hK => ?_) AllReadyH.nil
      go_simp
      go_at_call 27
      refine (specIsPrObs_any N3 P3 L3 m3 d3 ys.length e3 X3 ys _ (hP3.up hV3) (hL3.up hV3) (by omega) (by omega)).mono ?_
      rintro e w403 ⟨rfl, hb403⟩
      have hV4 := Up.then_ hV3 hb403
      go_wp2_with fail
      refine hK.out _ _ (by exact ⟨hV4, fun _ _ hb => hV4.cell hb⟩) (fun hHeld4 => ?_)
      clear hK K
      (try simp only [List.getElem_toArray]); (try simp only [List.getElem_cons_succ]); (try simp only [List.getElem_cons_zero]); (try simp only [Act.put]); (try simp only [List.setIfInBounds_toArray]); (try simp only [List.set_cons_succ]); (try simp only [List.set_cons_zero])
      refine wpAnyH_take (i := 14) (v := ?_) rfl (by kernel_rfl) (by kernel_rfl) (by kernel_rfl) (fun _ _ _ h => h) (Or.inl ⟨by rfl, ?_⟩) (by assumption) ?_
      rotate_left
      · (intro w' hSw; go_simp; try with_reducible rfl)
      (try simp only [List.getElem_toArray]); (try simp only [List.getElem_cons_succ]); (try simp only [List.getElem_cons_zero]); (try simp only [Act.put]); (try simp only [List.setIfInBounds_toArray]); (try simp only [List.set_cons_succ]); (try simp only [List.set_cons_zero])
      refine wpAnyH_take (i := 15) (v := ?_) rfl (by kernel_rfl) (by kernel_rfl) (by kernel_rfl) (fun _ _ _ h => h) (Or.inl ⟨by rfl, ?_⟩) (by assumption) ?_
      rotate_left
      · (intro w' hSw; go_simp; try with_reducible rfl)
      (try simp only [List.getElem_toArray]); (try simp only [List.getElem_cons_succ]); (try simp only [List.getElem_cons_zero]); (try simp only [Act.put]); (try simp only [List.setIfInBounds_toArray]); (try simp only [List.set_cons_succ]); (try simp only [List.set_cons_zero])
      refine wpAnyH_take (i := 16) (v := ?_) rfl (by kernel_rfl) (by kernel_rfl) (by kernel_rfl) (fun _ _ _ h => h) (Or.inl ⟨by rfl, ?_⟩) (by assumption) ?_
      rotate_left
      · (intro w' hSw; go_simp; try with_reducible rfl)
      (try simp only [List.getElem_toArray]); (try simp only [List.getElem_cons_succ]); (try simp only [List.getElem_cons_zero]); (try simp only [Act.put]); (try simp only [List.setIfInBounds_toArray]); (try simp only [List.set_cons_succ]); (try simp only [List.set_cons_zero])
      refine wpAnyH_take (i := 17) (v := ?_) rfl (by kernel_rfl) (by kernel_rfl) (by kernel_rfl) (fun _ _ _ h => h) (Or.inl ⟨by rfl, ?_⟩) (by assumption) ?_
      rotate_left
      · (intro w' hSw; go_simp; try with_reducible rfl)
      (try simp only [List.getElem_toArray]); (try simp only [List.getElem_cons_succ]); (try simp only [List.getElem_cons_zero]); (try simp only [Act.put]); (try simp only [List.setIfInBounds_toArray]); (try simp only [List.set_cons_succ]); (try simp only [List.set_cons_zero])
      refine wpAnyH_take (i := 18) (v := ?_) rfl (by kernel_rfl) (by kernel_rfl) (by kernel_rfl) (fun _ _ _ h => h) (Or.inl ⟨by rfl, ?_⟩) (by assumption) ?_
      rotate_left
      · (intro w' hSw; go_simp; try with_reducible rfl)
      (try simp only [List.getElem_toArray]); (try simp only [List.getElem_cons_succ]); (try simp only [List.getElem_cons_zero]); (try simp only [Act.put]); (try simp only [List.setIfInBounds_toArray]); (try simp only [List.set_cons_succ]); (try simp only [List.set_cons_zero])
      refine wpAnyH_take (i := 20) (v := ?_) rfl (by kernel_rfl) (by kernel_rfl) (by kernel_rfl) (fun _ _ _ h => h) (Or.inl ⟨by rfl, ?_⟩) (by assumption) ?_
      rotate_left
      · (intro w' hSw; go_simp; try with_reducible rfl)
      (try simp only [List.getElem_toArray]); (try simp only [List.getElem_cons_succ]); (try simp only [List.getElem_cons_zero]); (try simp only [Act.put]); (try simp only [List.setIfInBounds_toArray]); (try simp only [List.set_cons_succ]); (try simp only [List.set_cons_zero])
      refine wpAnyH_take (i := 21) (v := ?_) rfl (by kernel_rfl) (by kernel_rfl) (by kernel_rfl) (fun _ _ _ h => h) (Or.inl ⟨by rfl, ?_⟩) (by assumption) ?_
      rotate_left
      · (intro w' hSw; go_simp; try with_reducible rfl)
      (try simp only [List.getElem_toArray]); (try simp only [List.getElem_cons_succ]); (try simp only [List.getElem_cons_zero]); (try simp only [Act.put]); (try simp only [List.setIfInBounds_toArray]); (try simp only [List.set_cons_succ]); (try simp only [List.set_cons_zero])
      refine wpAnyH_ready (rs := [19]) (by kernel_rfl) (by simp) ?_
      refine AllReadyH.cons rfl (fun K hK => ?_) AllReadyH.nil
      go_simp
      go_at_call 21
      refine (implBandOf_any N4 P4 L4 m4 d4 zs.length e4 X4 zs _ (hP4.up hV4) (hL4.up hV4) (by omega) (by omega) hcap4.1).mono ?_
      rintro e w404 ⟨rfl, hb404⟩
      have hV5 := Up.then_ hV4 hb404
      go_wp2_with fail
      refine hK.out _ _ (by exact ⟨hV5, fun _ _ hb => hV5.cell hb⟩) (fun hHeld5 => ?_)
      clear hK K
      (try simp only [List.getElem_toArray]); (try simp only [List.getElem_cons_succ]); (try simp only [List.getElem_cons_zero]); (try simp only [Act.put]); (try simp only [List.setIfInBounds_toArray]); (try simp only [List.set_cons_succ]); (try simp only [List.set_cons_zero])
      refine wpAnyH_ready (rs := [22]) (by kernel_rfl) (by simp) ?_
      refine AllReadyH.cons rfl (fun K hK => ?_) AllReadyH.nil
      go_simp
      go_at_call 28
      refine (specBandOf_any N4 P4 L4 m4 d4 zs.length e4 X4 zs _ (hP4.up hV5) (hL4.up hV5) (by omega) (by omega)).mono ?_
      rintro e w405 ⟨rfl, hb405⟩
      have hV6 := Up.then_ hV5 hb405
      go_wp2_with fail
      refine hK.out _ _ (by exact ⟨hV6, fun _ _ hb => hV6.cell hb⟩) (fun hHeld6 => ?_)
      clear hK K
      (try simp only [List.getElem_toArray]); (try simp only [List.getElem_cons_succ]); (try simp only [List.getElem_cons_zero]); (try simp only [Act.put]); (try simp only [List.setIfInBounds_toArray]); (try simp only [List.set_cons_succ]); (try simp only [List.set_cons_zero])
      refine wpAnyH_take (i := 23) (v := ?_) rfl (by kernel_rfl) (by kernel_rfl) (by kernel_rfl) (fun _ _ _ h => h) (Or.inl ⟨by rfl, ?_⟩) (by assumption) ?_
      rotate_left
      · (intro w' hSw; go_simp; try with_reducible rfl)
      (try simp only [List.getElem_toArray]); (try simp only [List.getElem_cons_succ]); (try simp only [List.getElem_cons_zero]); (try simp only [Act.put]); (try simp only [List.setIfInBounds_toArray]); (try simp only [List.set_cons_succ]); (try simp only [List.set_cons_zero])
      refine wpAnyH_take (i := 24) (v := ?_) rfl (by kernel_rfl) (by kernel_rfl) (by kernel_rfl) (fun _ _ _ h => h) (Or.inl ⟨by rfl, ?_⟩) (by assumption) ?_
      rotate_left
      · (intro w' hSw; go_simp; try with_reducible rfl)
      (try simp only [List.getElem_toArray]); (try simp only [List.getElem_cons_succ]); (try simp only [List.getElem_cons_zero]); (try simp only [Act.put]); (try simp only [List.setIfInBounds_toArray]); (try simp only [List.set_cons_succ]); (try simp only [List.set_cons_zero])
      refine wpAnyH_take (i := 25) (v := ?_) rfl (by kernel_rfl) (by kernel_rfl) (by kernel_rfl) (fun _ _ _ h => h) (Or.inl ⟨by rfl, ?_⟩) (by assumption) ?_
      rotate_left
      · (intro w' hSw; go_simp; try with_reducible rfl)
      (try simp only [List.getElem_toArray]); (try simp only [List.getElem_cons_succ]); (try simp only [List.getElem_cons_zero]); (try simp only [Act.put]); (try simp only [List.setIfInBounds_toArray]); (try simp only [List.set_cons_succ]); (try simp only [List.set_cons_zero])
      refine wpAnyH_done (by kernel_rfl) ?_ _
      have hU40 := hV6
      go_wp2
      go_ret
      exact ⟨rfl, Up.then_ hw35 hU40⟩
    · have JQ : ∀ w', RI w' A m X → RI w' A11 ob.length ob → Calls Tryz.prog 17 #[.agg #[.int .i64 N, .slice A m d], .slice A11 ob.length c11] w' (fun e w'' => e = .returned (.bool true) ∧ Below w'.heap.size w' w'') := fun w' h h2 => by rw [← hpo rfl]; exact implIsPrObs_any N A A11 m d ob.length c11 X ob w' h h2 (by omega) (by omega) hcap11.1
      clear hpo hum hO5 hG9 yhG9 lhG9 hP8 hQ8
      go_wp2_with fail
      refine (JQ _ hX hO11).mono ?_
      rintro e w17 ⟨rfl, hb17⟩
      have hU17 : Up w16 w17 := Up.then_ (by go_grown) hb17
      replace hB := hB.up hU17
      replace hX := hX.up hU17
      replace hG := hG.up hU17
      replace hO11 := hO11.up hU17
      replace yhG := hG.two
      replace lhG := hG.lt
      have hw17 := Up.then_ hw16 hU17
      clear JQ hU17 hb17 hw16 hO11
      go_wp2_with fail
      have hV0 : Up w17 w17.drew := (Up.refl _).drew
      refine wp_region_held_drew (S := (fun w' => Up w17 w' ∧ (∀ b o, b < w17.heap.size → w'.cell? ⟨b, o, none⟩ = w17.cell? ⟨b, o, none⟩))) (by kernel_rfl) (by exact ⟨hV0, fun _ _ hb => hV0.cell hb⟩) (fun hHeld => ?_)
      refine wpAnyH_take (i := 0) (v := ?_) rfl (by kernel_rfl) (by kernel_rfl) (by kernel_rfl) (fun _ _ _ h => h) (Or.inl ⟨by rfl, ?_⟩) (by assumption) ?_
      rotate_left
      · (intro w' hSw; go_simp; try with_reducible rfl)
      (try simp only [List.getElem_toArray]); (try simp only [List.getElem_cons_succ]); (try simp only [List.getElem_cons_zero]); (try simp only [Act.put]); (try simp only [List.setIfInBounds_toArray]); (try simp only [List.set_cons_succ]); (try simp only [List.set_cons_zero])
      refine wpAnyH_take (i := 1) (v := ?_) rfl (by kernel_rfl) (by kernel_rfl) (by kernel_rfl) (fun _ _ _ h => h) (Or.inl ⟨by rfl, ?_⟩) (by assumption) ?_
      rotate_left
      · (intro w' hSw; go_simp; try with_reducible rfl)
      (try simp only [List.getElem_toArray]); (try simp only [List.getElem_cons_succ]); (try simp only [List.getElem_cons_zero]); (try simp only [Act.put]); (try simp only [List.setIfInBounds_toArray]); (try simp only [List.set_cons_succ]); (try simp only [List.set_cons_zero])
      refine wpAnyH_take (i := 2) (v := undef) rfl (by kernel_rfl) (by kernel_rfl) (by kernel_rfl) (fun _ _ _ h => h) (Or.inr ⟨by rfl, rfl⟩) (by assumption) ?_
      (try simp only [List.getElem_toArray]); (try simp only [List.getElem_cons_succ]); (try simp only [List.getElem_cons_zero]); (try simp only [Act.put]); (try simp only [List.setIfInBounds_toArray]); (try simp only [List.set_cons_succ]); (try simp only [List.set_cons_zero])
      refine wpAnyH_take (i := 3) (v := undef) rfl (by kernel_rfl) (by kernel_rfl) (by kernel_rfl) (fun _ _ _ h => h) (Or.inr ⟨by rfl, rfl⟩) (by assumption) ?_
      (try simp only [List.getElem_toArray]); (try simp only [List.getElem_cons_succ]); (try simp only [List.getElem_cons_zero]); (try simp only [Act.put]); (try simp only [List.setIfInBounds_toArray]); (try simp only [List.set_cons_succ]); (try simp only [List.set_cons_zero])
      refine wpAnyH_take (i := 4) (v := undef) rfl (by kernel_rfl) (by kernel_rfl) (by kernel_rfl) (fun _ _ _ h => h) (Or.inr ⟨by rfl, rfl⟩) (by assumption) ?_
      (try simp only [List.getElem_toArray]); (try simp only [List.getElem_cons_succ]); (try simp only [List.getElem_cons_zero]); (try simp only [Act.put]); (try simp only [List.setIfInBounds_toArray]); (try simp only [List.set_cons_succ]); (try simp only [List.set_cons_zero])
      refine wpAnyH_take (i := 5) (v := undef) rfl (by kernel_rfl) (by kernel_rfl) (by kernel_rfl) (fun _ _ _ h => h) (Or.inr ⟨by rfl, rfl⟩) (by assumption) ?_
      (try simp only [List.getElem_toArray]); (try simp only [List.getElem_cons_succ]); (try simp only [List.getElem_cons_zero]); (try simp only [Act.put]); (try simp only [List.setIfInBounds_toArray]); (try simp only [List.set_cons_succ]); (try simp only [List.set_cons_zero])
      refine wpAnyH_take (i := 6) (v := undef) rfl (by kernel_rfl) (by kernel_rfl) (by kernel_rfl) (fun _ _ _ h => h) (Or.inr ⟨by rfl, rfl⟩) (by assumption) ?_
      (try simp only [List.getElem_toArray]); (try simp only [List.getElem_cons_succ]); (try simp only [List.getElem_cons_zero]); (try simp only [Act.put]); (try simp only [List.setIfInBounds_toArray]); (try simp only [List.set_cons_succ]); (try simp only [List.set_cons_zero])
      refine wpAnyH_take (i := 7) (v := undef) rfl (by kernel_rfl) (by kernel_rfl) (by kernel_rfl) (fun _ _ _ h => h) (Or.inr ⟨by rfl, rfl⟩) (by assumption) ?_
      (try simp only [List.getElem_toArray]); (try simp only [List.getElem_cons_succ]); (try simp only [List.getElem_cons_zero]); (try simp only [Act.put]); (try simp only [List.setIfInBounds_toArray]); (try simp only [List.set_cons_succ]); (try simp only [List.set_cons_zero])
      refine wpAnyH_take (i := 8) (v := undef) rfl (by kernel_rfl) (by kernel_rfl) (by kernel_rfl) (fun _ _ _ h => h) (Or.inr ⟨by rfl, rfl⟩) (by assumption) ?_
      (try simp only [List.getElem_toArray]); (try simp only [List.getElem_cons_succ]); (try simp only [List.getElem_cons_zero]); (try simp only [Act.put]); (try simp only [List.setIfInBounds_toArray]); (try simp only [List.set_cons_succ]); (try simp only [List.set_cons_zero])
      refine wpAnyH_take (i := 9) (v := undef) rfl (by kernel_rfl) (by kernel_rfl) (by kernel_rfl) (fun _ _ _ h => h) (Or.inr ⟨by rfl, rfl⟩) (by assumption) ?_
      (try simp only [List.getElem_toArray]); (try simp only [List.getElem_cons_succ]); (try simp only [List.getElem_cons_zero]); (try simp only [Act.put]); (try simp only [List.setIfInBounds_toArray]); (try simp only [List.set_cons_succ]); (try simp only [List.set_cons_zero])
      refine wpAnyH_take (i := 10) (v := undef) rfl (by kernel_rfl) (by kernel_rfl) (by kernel_rfl) (fun _ _ _ h => h) (Or.inr ⟨by rfl, rfl⟩) (by assumption) ?_
      (try simp only [List.getElem_toArray]); (try simp only [List.getElem_cons_succ]); (try simp only [List.getElem_cons_zero]); (try simp only [Act.put]); (try simp only [List.setIfInBounds_toArray]); (try simp only [List.set_cons_succ]); (try simp only [List.set_cons_zero])
      refine wpAnyH_take (i := 11) (v := undef) rfl (by kernel_rfl) (by kernel_rfl) (by kernel_rfl) (fun _ _ _ h => h) (Or.inr ⟨by rfl, rfl⟩) (by assumption) ?_
      (try simp only [List.getElem_toArray]); (try simp only [List.getElem_cons_succ]); (try simp only [List.getElem_cons_zero]); (try simp only [Act.put]); (try simp only [List.setIfInBounds_toArray]); (try simp only [List.set_cons_succ]); (try simp only [List.set_cons_zero])
      refine wpAnyH_take (i := 12) (v := undef) rfl (by kernel_rfl) (by kernel_rfl) (by kernel_rfl) (fun _ _ _ h => h) (Or.inr ⟨by rfl, rfl⟩) (by assumption) ?_
      (try simp only [List.getElem_toArray]); (try simp only [List.getElem_cons_succ]); (try simp only [List.getElem_cons_zero]); (try simp only [Act.put]); (try simp only [List.setIfInBounds_toArray]); (try simp only [List.set_cons_succ]); (try simp only [List.set_cons_zero])
      refine wpAnyH_take (i := 13) (v := undef) rfl (by kernel_rfl) (by kernel_rfl) (by kernel_rfl) (fun _ _ _ h => h) (Or.inr ⟨by rfl, rfl⟩) (by assumption) ?_
      (try simp only [List.getElem_toArray]); (try simp only [List.getElem_cons_succ]); (try simp only [List.getElem_cons_zero]); (try simp only [Act.put]); (try simp only [List.setIfInBounds_toArray]); (try simp only [List.set_cons_succ]); (try simp only [List.set_cons_zero])
      refine wpAnyH_take (i := 14) (v := undef) rfl (by kernel_rfl) (by kernel_rfl) (by kernel_rfl) (fun _ _ _ h => h) (Or.inr ⟨by rfl, rfl⟩) (by assumption) ?_
      (try simp only [List.getElem_toArray]); (try simp only [List.getElem_cons_succ]); (try simp only [List.getElem_cons_zero]); (try simp only [Act.put]); (try simp only [List.setIfInBounds_toArray]); (try simp only [List.set_cons_succ]); (try simp only [List.set_cons_zero])
      refine wpAnyH_take (i := 15) (v := undef) rfl (by kernel_rfl) (by kernel_rfl) (by kernel_rfl) (fun _ _ _ h => h) (Or.inr ⟨by rfl, rfl⟩) (by assumption) ?_
      (try simp only [List.getElem_toArray]); (try simp only [List.getElem_cons_succ]); (try simp only [List.getElem_cons_zero]); (try simp only [Act.put]); (try simp only [List.setIfInBounds_toArray]); (try simp only [List.set_cons_succ]); (try simp only [List.set_cons_zero])
      refine wpAnyH_take (i := 16) (v := undef) rfl (by kernel_rfl) (by kernel_rfl) (by kernel_rfl) (fun _ _ _ h => h) (Or.inr ⟨by rfl, rfl⟩) (by assumption) ?_
      (try simp only [List.getElem_toArray]); (try simp only [List.getElem_cons_succ]); (try simp only [List.getElem_cons_zero]); (try simp only [Act.put]); (try simp only [List.setIfInBounds_toArray]); (try simp only [List.set_cons_succ]); (try simp only [List.set_cons_zero])
      refine wpAnyH_take (i := 17) (v := undef) rfl (by kernel_rfl) (by kernel_rfl) (by kernel_rfl) (fun _ _ _ h => h) (Or.inr ⟨by rfl, rfl⟩) (by assumption) ?_
      (try simp only [List.getElem_toArray]); (try simp only [List.getElem_cons_succ]); (try simp only [List.getElem_cons_zero]); (try simp only [Act.put]); (try simp only [List.setIfInBounds_toArray]); (try simp only [List.set_cons_succ]); (try simp only [List.set_cons_zero])
      refine wpAnyH_take (i := 18) (v := undef) rfl (by kernel_rfl) (by kernel_rfl) (by kernel_rfl) (fun _ _ _ h => h) (Or.inr ⟨by rfl, rfl⟩) (by assumption) ?_
      (try simp only [List.getElem_toArray]); (try simp only [List.getElem_cons_succ]); (try simp only [List.getElem_cons_zero]); (try simp only [Act.put]); (try simp only [List.setIfInBounds_toArray]); (try simp only [List.set_cons_succ]); (try simp only [List.set_cons_zero])
      refine wpAnyH_take (i := 19) (v := undef) rfl (by kernel_rfl) (by kernel_rfl) (by kernel_rfl) (fun _ _ _ h => h) (Or.inr ⟨by rfl, rfl⟩) (by assumption) ?_
      (try simp only [List.getElem_toArray]); (try simp only [List.getElem_cons_succ]); (try simp only [List.getElem_cons_zero]); (try simp only [Act.put]); (try simp only [List.setIfInBounds_toArray]); (try simp only [List.set_cons_succ]); (try simp only [List.set_cons_zero])
      refine wpAnyH_take (i := 20) (v := undef) rfl (by kernel_rfl) (by kernel_rfl) (by kernel_rfl) (fun _ _ _ h => h) (Or.inr ⟨by rfl, rfl⟩) (by assumption) ?_
      (try simp only [List.getElem_toArray]); (try simp only [List.getElem_cons_succ]); (try simp only [List.getElem_cons_zero]); (try simp only [Act.put]); (try simp only [List.setIfInBounds_toArray]); (try simp only [List.set_cons_succ]); (try simp only [List.set_cons_zero])
      refine wpAnyH_take (i := 21) (v := undef) rfl (by kernel_rfl) (by kernel_rfl) (by kernel_rfl) (fun _ _ _ h => h) (Or.inr ⟨by rfl, rfl⟩) (by assumption) ?_
      (try simp only [List.getElem_toArray]); (try simp only [List.getElem_cons_succ]); (try simp only [List.getElem_cons_zero]); (try simp only [Act.put]); (try simp only [List.setIfInBounds_toArray]); (try simp only [List.set_cons_succ]); (try simp only [List.set_cons_zero])
      refine wpAnyH_take (i := 22) (v := undef) rfl (by kernel_rfl) (by kernel_rfl) (by kernel_rfl) (fun _ _ _ h => h) (Or.inr ⟨by rfl, rfl⟩) (by assumption) ?_
      (try simp only [List.getElem_toArray]); (try simp only [List.getElem_cons_succ]); (try simp only [List.getElem_cons_zero]); (try simp only [Act.put]); (try simp only [List.setIfInBounds_toArray]); (try simp only [List.set_cons_succ]); (try simp only [List.set_cons_zero])
      refine wpAnyH_take (i := 23) (v := undef) rfl (by kernel_rfl) (by kernel_rfl) (by kernel_rfl) (fun _ _ _ h => h) (Or.inr ⟨by rfl, rfl⟩) (by assumption) ?_
      (try simp only [List.getElem_toArray]); (try simp only [List.getElem_cons_succ]); (try simp only [List.getElem_cons_zero]); (try simp only [Act.put]); (try simp only [List.setIfInBounds_toArray]); (try simp only [List.set_cons_succ]); (try simp only [List.set_cons_zero])
      refine wpAnyH_take (i := 24) (v := undef) rfl (by kernel_rfl) (by kernel_rfl) (by kernel_rfl) (fun _ _ _ h => h) (Or.inr ⟨by rfl, rfl⟩) (by assumption) ?_
      (try simp only [List.getElem_toArray]); (try simp only [List.getElem_cons_succ]); (try simp only [List.getElem_cons_zero]); (try simp only [Act.put]); (try simp only [List.setIfInBounds_toArray]); (try simp only [List.set_cons_succ]); (try simp only [List.set_cons_zero])
      refine wpAnyH_take (i := 25) (v := undef) rfl (by kernel_rfl) (by kernel_rfl) (by kernel_rfl) (fun _ _ _ h => h) (Or.inr ⟨by rfl, rfl⟩) (by assumption) ?_
      (try simp only [List.getElem_toArray]); (try simp only [List.getElem_cons_succ]); (try simp only [List.getElem_cons_zero]); (try simp only [Act.put]); (try simp only [List.setIfInBounds_toArray]); (try simp only [List.set_cons_succ]); (try simp only [List.set_cons_zero])
      refine wpAnyH_take (i := 26) (v := undef) rfl (by kernel_rfl) (by kernel_rfl) (by kernel_rfl) (fun _ _ _ h => h) (Or.inr ⟨by rfl, rfl⟩) (by assumption) ?_
      (try simp only [List.getElem_toArray]); (try simp only [List.getElem_cons_succ]); (try simp only [List.getElem_cons_zero]); (try simp only [Act.put]); (try simp only [List.setIfInBounds_toArray]); (try simp only [List.set_cons_succ]); (try simp only [List.set_cons_zero])
      refine wpAnyH_take (i := 27) (v := ?_) rfl (by kernel_rfl) (by kernel_rfl) (by kernel_rfl) (fun _ _ _ h => h) (Or.inl ⟨by rfl, ?_⟩) (by assumption) ?_
      rotate_left
      · (intro w' hSw; go_simp; try with_reducible rfl)
      (try simp only [List.getElem_toArray]); (try simp only [List.getElem_cons_succ]); (try simp only [List.getElem_cons_zero]); (try simp only [Act.put]); (try simp only [List.setIfInBounds_toArray]); (try simp only [List.set_cons_succ]); (try simp only [List.set_cons_zero])
      refine wpAnyH_done (by kernel_rfl) ?_ _
      have hU20 := hV0
      have hw20 := Up.then_ hw17 hU20
      replace hB := hB.up hU20
      clear hU20 hV0 hHeld hw17
      generalize w17.drew = w20 at hB hw20 ⊢
      clear hX hG yhG lhG
      have hlowT : ∀ ad, B = some ad → ad.block < w20.heap.size := fun ad e => by have := hlow ad e; have := hw20.size; omega
      go_wp2_with fail
      refine (drawIsUmbrella_any B n c bs _ hB hs hlowT).mono ?_
      rintro e w30 ⟨N2, P2, m2, d2, X2, L2, e2, xs, rfl, hP2, hle2, hL2, hl2, hb30⟩
      have hU30 : Up w20 w30 := Up.then_ (by go_grown) hb30
      replace hB := hB.up hU30
      have hw30 := Up.then_ hw20 hU30
      have hm2 : m2 ≤ 7 := by rw [← hP2.len]; exact le6L_len hle2
      have hcap2 := hL2.cap
      replace hP2 := hP2.ri
      replace hL2 := hL2.ri
      have hU31 : Up w30 (w30.alloc (.cells #[.int .i64 N2, .slice P2 m2 d2] 26)) := by go_grown
      have hG2 := Blk.new w30 26 #[.int .i64 N2, .slice P2 m2 d2]
      have hw31 := Up.then_ hw30 hU31
      replace hP2 := hP2.up hU31
      replace hL2 := hL2.up hU31
      replace hB := hB.up hU31
      obtain ⟨g31, hg31⟩ : ∃ g31, g31 = w30.heap.size := ⟨_, rfl⟩
      rw [← hg31] at hG2
      go_wp2_with fail
      rw [← hg31]
      generalize w30.alloc (.cells #[.int .i64 N2, .slice P2 m2 d2] 26) = w31 at hG2 hP2 hL2 hB hw31 ⊢
      have hlow31 : ∀ ad, B = some ad → ad.block < w31.heap.size := fun ad e => by have := hlow ad e; have := hw31.size; omega
      clear hg31 hU31
      refine (drawIsProperObstacle_any B n c bs _ hB hs hlow31).mono ?_
      rintro e w32 ⟨N3, P3, m3, d3, X3, L3, e3, ys, rfl, hP3, hle3, hL3, hl3, hb32⟩
      have hU32 : Up w31 w32 := hb32
      replace hB := hB.up hU32
      replace hP2 := hP2.up hU32
      replace hL2 := hL2.up hU32
      replace hG2 := hG2.up hU32
      have hw32 := Up.then_ hw31 hU32
      have hm3 : m3 ≤ 7 := by rw [← hP3.len]; exact le6L_len hle3
      have hcap3 := hL3.cap
      replace hP3 := hP3.ri
      replace hL3 := hL3.ri
      have hU33 : Up w32 (w32.alloc (.cells #[.int .i64 N3, .slice P3 m3 d3] 26)) := by go_grown
      have hG3 := Blk.new w32 26 #[.int .i64 N3, .slice P3 m3 d3]
      have hw33 := Up.then_ hw32 hU33
      replace hB := hB.up hU33
      replace hP2 := hP2.up hU33
      replace hL2 := hL2.up hU33
      replace hG2 := hG2.up hU33
      replace hP3 := hP3.up hU33
      replace hL3 := hL3.up hU33
      obtain ⟨g33, hg33⟩ : ∃ g33, g33 = w32.heap.size := ⟨_, rfl⟩
      rw [← hg33] at hG3
      go_wp2_with fail
      rw [← hg33]
      generalize w32.alloc (.cells #[.int .i64 N3, .slice P3 m3 d3] 26) = w33 at hG3 hB hP2 hL2 hG2 hP3 hL3 hw33 ⊢
      have hlow33 : ∀ ad, B = some ad → ad.block < w33.heap.size := fun ad e => by have := hlow ad e; have := hw33.size; omega
      clear hg33 hU33
      refine (drawBandOf_any B n c bs _ hB hs hlow33).mono ?_
      rintro e w34 ⟨N4, P4, m4, d4, X4, L4, e4, zs, rfl, hP4, hle4, hL4, hl4, hb34⟩
      have hU34 : Up w33 w34 := hb34
      replace hB := hB.up hU34
      replace hP2 := hP2.up hU34
      replace hL2 := hL2.up hU34
      replace hG2 := hG2.up hU34
      replace hP3 := hP3.up hU34
      replace hL3 := hL3.up hU34
      replace hG3 := hG3.up hU34
      have hw34 := Up.then_ hw33 hU34
      have hm4 : m4 ≤ 7 := by rw [← hP4.len]; exact le6L_len hle4
      have hcap4 := hL4.cap
      replace hP4 := hP4.ri
      replace hL4 := hL4.ri
      clear hB hlowT hlow31 hlow33
      have hU35 : Up w34 (w34.alloc (.cells #[.int .i64 N4, .slice P4 m4 d4] 26)) := by go_grown
      have hG4 := Blk.new w34 26 #[.int .i64 N4, .slice P4 m4 d4]
      have hw35 := Up.then_ hw34 hU35
      replace hP2 := hP2.up hU35
      replace hL2 := hL2.up hU35
      replace hG2 := hG2.up hU35
      replace hP3 := hP3.up hU35
      replace hL3 := hL3.up hU35
      replace hG3 := hG3.up hU35
      replace hP4 := hP4.up hU35
      replace hL4 := hL4.up hU35
      obtain ⟨g35, hg35⟩ : ∃ g35, g35 = w34.heap.size := ⟨_, rfl⟩
      rw [← hg35] at hG4
      go_wp2_with fail
      rw [← hg35]
      generalize w34.alloc (.cells #[.int .i64 N4, .slice P4 m4 d4] 26) = w35 at hG4 hP2 hL2 hG2 hP3 hL3 hG3 hP4 hL4 hw35 ⊢
      clear hg35 hU35
      have yhG2 := hG2.two
      have lhG2 := hG2.lt
      have yhG3 := hG3.two
      have lhG3 := hG3.lt
      have yhG4 := hG4.two
      have lhG4 := hG4.lt
      clear hw30 hw31 hw32 hw33 hw34 hU30 hU32 hU34 hb30 hb32 hb34 hle2 hle3 hle4
      have hV0 : Up w35 w35.drew := (Up.refl _).drew
      refine wp_region_held_drew (S := (fun w' => Up w35 w' ∧ (∀ b o, b < w35.heap.size → w'.cell? ⟨b, o, none⟩ = w35.cell? ⟨b, o, none⟩))) (by kernel_rfl) (by exact ⟨hV0, fun _ _ hb => hV0.cell hb⟩) (fun hHeld => ?_)
      refine wpAnyH_take (i := 0) (v := ?_) rfl (by kernel_rfl) (by kernel_rfl) (by kernel_rfl) (fun _ _ _ h => h) (Or.inl ⟨by rfl, ?_⟩) (by assumption) ?_
      rotate_left
      · (intro w' hSw; go_simp; try with_reducible rfl)
      (try simp only [List.getElem_toArray]); (try simp only [List.getElem_cons_succ]); (try simp only [List.getElem_cons_zero]); (try simp only [Act.put]); (try simp only [List.setIfInBounds_toArray]); (try simp only [List.set_cons_succ]); (try simp only [List.set_cons_zero])
      refine wpAnyH_take (i := 1) (v := ?_) rfl (by kernel_rfl) (by kernel_rfl) (by kernel_rfl) (fun _ _ _ h => h) (Or.inl ⟨by rfl, ?_⟩) (by assumption) ?_
      rotate_left
      · (intro w' hSw; go_simp; try with_reducible rfl)
      (try simp only [List.getElem_toArray]); (try simp only [List.getElem_cons_succ]); (try simp only [List.getElem_cons_zero]); (try simp only [Act.put]); (try simp only [List.setIfInBounds_toArray]); (try simp only [List.set_cons_succ]); (try simp only [List.set_cons_zero])
      refine wpAnyH_take (i := 3) (v := ?_) rfl (by kernel_rfl) (by kernel_rfl) (by kernel_rfl) (fun _ _ _ h => h) (Or.inl ⟨by rfl, ?_⟩) (by assumption) ?_
      rotate_left
      · (intro w' hSw; go_simp; try with_reducible rfl)
      (try simp only [List.getElem_toArray]); (try simp only [List.getElem_cons_succ]); (try simp only [List.getElem_cons_zero]); (try simp only [Act.put]); (try simp only [List.setIfInBounds_toArray]); (try simp only [List.set_cons_succ]); (try simp only [List.set_cons_zero])
      refine wpAnyH_take (i := 4) (v := ?_) rfl (by kernel_rfl) (by kernel_rfl) (by kernel_rfl) (fun _ _ _ h => h) (Or.inl ⟨by rfl, ?_⟩) (by assumption) ?_
      rotate_left
      · (intro w' hSw; go_simp; try with_reducible rfl)
      (try simp only [List.getElem_toArray]); (try simp only [List.getElem_cons_succ]); (try simp only [List.getElem_cons_zero]); (try simp only [Act.put]); (try simp only [List.setIfInBounds_toArray]); (try simp only [List.set_cons_succ]); (try simp only [List.set_cons_zero])
      refine wpAnyH_ready (rs := [2]) (by kernel_rfl) (by simp) ?_
      refine AllReadyH.cons rfl (fun K hK => ?_) AllReadyH.nil
      go_simp
      go_at_call 18
      refine (implIsUmbrella_cap N2 P2 L2 m2 d2 xs.length e2 X2 xs _ (hP2.up hV0) (hL2.up hV0) (by omega) (by omega) hcap2.1 hcap2.2).mono ?_
      rintro e w400 ⟨rfl, hb400⟩
      have hV1 := Up.then_ hV0 hb400
      go_wp2_with fail
      refine hK.out _ _ (by exact ⟨hV1, fun _ _ hb => hV1.cell hb⟩) (fun hHeld1 => ?_)
      clear hK K
      (try simp only [List.getElem_toArray]); (try simp only [List.getElem_cons_succ]); (try simp only [List.getElem_cons_zero]); (try simp only [Act.put]); (try simp only [List.setIfInBounds_toArray]); (try simp only [List.set_cons_succ]); (try simp only [List.set_cons_zero])
      refine wpAnyH_ready (rs := [5]) (by kernel_rfl) (by simp) ?_
      refine AllReadyH.cons rfl (fun K hK => ?_) AllReadyH.nil
      go_simp
      go_at_call 26
      refine (specIsUmbrella_cap N2 P2 L2 m2 d2 xs.length e2 X2 xs _ (hP2.up hV1) (hL2.up hV1) (by omega) (by omega) hcap2.1 hcap2.2).mono ?_
      rintro e w401 ⟨rfl, hb401⟩
      have hV2 := Up.then_ hV1 hb401
      go_wp2_with fail
      refine hK.out _ _ (by exact ⟨hV2, fun _ _ hb => hV2.cell hb⟩) (fun hHeld2 => ?_)
      clear hK K
      (try simp only [List.getElem_toArray]); (try simp only [List.getElem_cons_succ]); (try simp only [List.getElem_cons_zero]); (try simp only [Act.put]); (try simp only [List.setIfInBounds_toArray]); (try simp only [List.set_cons_succ]); (try simp only [List.set_cons_zero])
      refine wpAnyH_take (i := 6) (v := ?_) rfl (by kernel_rfl) (by kernel_rfl) (by kernel_rfl) (fun _ _ _ h => h) (Or.inl ⟨by rfl, ?_⟩) (by assumption) ?_
      rotate_left
      · (intro w' hSw; go_simp; try with_reducible rfl)
      (try simp only [List.getElem_toArray]); (try simp only [List.getElem_cons_succ]); (try simp only [List.getElem_cons_zero]); (try simp only [Act.put]); (try simp only [List.setIfInBounds_toArray]); (try simp only [List.set_cons_succ]); (try simp only [List.set_cons_zero])
      refine wpAnyH_take (i := 7) (v := ?_) rfl (by kernel_rfl) (by kernel_rfl) (by kernel_rfl) (fun _ _ _ h => h) (Or.inl ⟨by rfl, ?_⟩) (by assumption) ?_
      rotate_left
      · (intro w' hSw; go_simp; try with_reducible rfl)
      (try simp only [List.getElem_toArray]); (try simp only [List.getElem_cons_succ]); (try simp only [List.getElem_cons_zero]); (try simp only [Act.put]); (try simp only [List.setIfInBounds_toArray]); (try simp only [List.set_cons_succ]); (try simp only [List.set_cons_zero])
      refine wpAnyH_take (i := 8) (v := ?_) rfl (by kernel_rfl) (by kernel_rfl) (by kernel_rfl) (fun _ _ _ h => h) (Or.inl ⟨by rfl, ?_⟩) (by assumption) ?_
      rotate_left
      · (intro w' hSw; go_simp; try with_reducible rfl)
      (try simp only [List.getElem_toArray]); (try simp only [List.getElem_cons_succ]); (try simp only [List.getElem_cons_zero]); (try simp only [Act.put]); (try simp only [List.setIfInBounds_toArray]); (try simp only [List.set_cons_succ]); (try simp only [List.set_cons_zero])
      refine wpAnyH_take (i := 9) (v := ?_) rfl (by kernel_rfl) (by kernel_rfl) (by kernel_rfl) (fun _ _ _ h => h) (Or.inl ⟨by rfl, ?_⟩) (by assumption) ?_
      rotate_left
      · (intro w' hSw; go_simp; try with_reducible rfl)
      (try simp only [List.getElem_toArray]); (try simp only [List.getElem_cons_succ]); (try simp only [List.getElem_cons_zero]); (try simp only [Act.put]); (try simp only [List.setIfInBounds_toArray]); (try simp only [List.set_cons_succ]); (try simp only [List.set_cons_zero])
      refine wpAnyH_take (i := 11) (v := ?_) rfl (by kernel_rfl) (by kernel_rfl) (by kernel_rfl) (fun _ _ _ h => h) (Or.inl ⟨by rfl, ?_⟩) (by assumption) ?_
      rotate_left
      · (intro w' hSw; go_simp; try with_reducible rfl)
      (try simp only [List.getElem_toArray]); (try simp only [List.getElem_cons_succ]); (try simp only [List.getElem_cons_zero]); (try simp only [Act.put]); (try simp only [List.setIfInBounds_toArray]); (try simp only [List.set_cons_succ]); (try simp only [List.set_cons_zero])
      refine wpAnyH_take (i := 12) (v := ?_) rfl (by kernel_rfl) (by kernel_rfl) (by kernel_rfl) (fun _ _ _ h => h) (Or.inl ⟨by rfl, ?_⟩) (by assumption) ?_
      rotate_left
      · (intro w' hSw; go_simp; try with_reducible rfl)
      (try simp only [List.getElem_toArray]); (try simp only [List.getElem_cons_succ]); (try simp only [List.getElem_cons_zero]); (try simp only [Act.put]); (try simp only [List.setIfInBounds_toArray]); (try simp only [List.set_cons_succ]); (try simp only [List.set_cons_zero])
      refine wpAnyH_ready (rs := [10]) (by kernel_rfl) (by simp) ?_
      refine AllReadyH.cons rfl (fun K hK => ?_) AllReadyH.nil
      go_simp
      go_at_call 17
      refine (implIsPrObs_any N3 P3 L3 m3 d3 ys.length e3 X3 ys _ (hP3.up hV2) (hL3.up hV2) (by omega) (by omega) hcap3.1).mono ?_
      rintro e w402 ⟨rfl, hb402⟩
      have hV3 := Up.then_ hV2 hb402
      go_wp2_with fail
      refine hK.out _ _ (by exact ⟨hV3, fun _ _ hb => hV3.cell hb⟩) (fun hHeld3 => ?_)
      clear hK K
      (try simp only [List.getElem_toArray]); (try simp only [List.getElem_cons_succ]); (try simp only [List.getElem_cons_zero]); (try simp only [Act.put]); (try simp only [List.setIfInBounds_toArray]); (try simp only [List.set_cons_succ]); (try simp only [List.set_cons_zero])
      refine wpAnyH_ready (rs := [13]) (by kernel_rfl) (by simp) ?_
      refine AllReadyH.cons rfl (fun K hK => ?_) AllReadyH.nil
      go_simp
      go_at_call 27
      refine (specIsPrObs_any N3 P3 L3 m3 d3 ys.length e3 X3 ys _ (hP3.up hV3) (hL3.up hV3) (by omega) (by omega)).mono ?_
      rintro e w403 ⟨rfl, hb403⟩
      have hV4 := Up.then_ hV3 hb403
      go_wp2_with fail
      refine hK.out _ _ (by exact ⟨hV4, fun _ _ hb => hV4.cell hb⟩) (fun hHeld4 => ?_)
      clear hK K
      (try simp only [List.getElem_toArray]); (try simp only [List.getElem_cons_succ]); (try simp only [List.getElem_cons_zero]); (try simp only [Act.put]); (try simp only [List.setIfInBounds_toArray]); (try simp only [List.set_cons_succ]); (try simp only [List.set_cons_zero])
      refine wpAnyH_take (i := 14) (v := ?_) rfl (by kernel_rfl) (by kernel_rfl) (by kernel_rfl) (fun _ _ _ h => h) (Or.inl ⟨by rfl, ?_⟩) (by assumption) ?_
      rotate_left
      · (intro w' hSw; go_simp; try with_reducible rfl)
      (try simp only [List.getElem_toArray]); (try simp only [List.getElem_cons_succ]); (try simp only [List.getElem_cons_zero]); (try simp only [Act.put]); (try simp only [List.setIfInBounds_toArray]); (try simp only [List.set_cons_succ]); (try simp only [List.set_cons_zero])
      refine wpAnyH_take (i := 15) (v := ?_) rfl (by kernel_rfl) (by kernel_rfl) (by kernel_rfl) (fun _ _ _ h => h) (Or.inl ⟨by rfl, ?_⟩) (by assumption) ?_
      rotate_left
      · (intro w' hSw; go_simp; try with_reducible rfl)
      (try simp only [List.getElem_toArray]); (try simp only [List.getElem_cons_succ]); (try simp only [List.getElem_cons_zero]); (try simp only [Act.put]); (try simp only [List.setIfInBounds_toArray]); (try simp only [List.set_cons_succ]); (try simp only [List.set_cons_zero])
      refine wpAnyH_take (i := 16) (v := ?_) rfl (by kernel_rfl) (by kernel_rfl) (by kernel_rfl) (fun _ _ _ h => h) (Or.inl ⟨by rfl, ?_⟩) (by assumption) ?_
      rotate_left
      · (intro w' hSw; go_simp; try with_reducible rfl)
      (try simp only [List.getElem_toArray]); (try simp only [List.getElem_cons_succ]); (try simp only [List.getElem_cons_zero]); (try simp only [Act.put]); (try simp only [List.setIfInBounds_toArray]); (try simp only [List.set_cons_succ]); (try simp only [List.set_cons_zero])
      refine wpAnyH_take (i := 17) (v := ?_) rfl (by kernel_rfl) (by kernel_rfl) (by kernel_rfl) (fun _ _ _ h => h) (Or.inl ⟨by rfl, ?_⟩) (by assumption) ?_
      rotate_left
      · (intro w' hSw; go_simp; try with_reducible rfl)
      (try simp only [List.getElem_toArray]); (try simp only [List.getElem_cons_succ]); (try simp only [List.getElem_cons_zero]); (try simp only [Act.put]); (try simp only [List.setIfInBounds_toArray]); (try simp only [List.set_cons_succ]); (try simp only [List.set_cons_zero])
      refine wpAnyH_take (i := 18) (v := ?_) rfl (by kernel_rfl) (by kernel_rfl) (by kernel_rfl) (fun _ _ _ h => h) (Or.inl ⟨by rfl, ?_⟩) (by assumption) ?_
      rotate_left
      · (intro w' hSw; go_simp; try with_reducible rfl)
      (try simp only [List.getElem_toArray]); (try simp only [List.getElem_cons_succ]); (try simp only [List.getElem_cons_zero]); (try simp only [Act.put]); (try simp only [List.setIfInBounds_toArray]); (try simp only [List.set_cons_succ]); (try simp only [List.set_cons_zero])
      refine wpAnyH_take (i := 20) (v := ?_) rfl (by kernel_rfl) (by kernel_rfl) (by kernel_rfl) (fun _ _ _ h => h) (Or.inl ⟨by rfl, ?_⟩) (by assumption) ?_
      rotate_left
      · (intro w' hSw; go_simp; try with_reducible rfl)
      (try simp only [List.getElem_toArray]); (try simp only [List.getElem_cons_succ]); (try simp only [List.getElem_cons_zero]); (try simp only [Act.put]); (try simp only [List.setIfInBounds_toArray]); (try simp only [List.set_cons_succ]); (try simp only [List.set_cons_zero])
      refine wpAnyH_take (i := 21) (v := ?_) rfl (by kernel_rfl) (by kernel_rfl) (by kernel_rfl) (fun _ _ _ h => h) (Or.inl ⟨by rfl, ?_⟩) (by assumption) ?_
      rotate_left
      · (intro w' hSw; go_simp; try with_reducible rfl)
      (try simp only [List.getElem_toArray]); (try simp only [List.getElem_cons_succ]); (try simp only [List.getElem_cons_zero]); (try simp only [Act.put]); (try simp only [List.setIfInBounds_toArray]); (try simp only [List.set_cons_succ]); (try simp only [List.set_cons_zero])
      refine wpAnyH_ready (rs := [19]) (by kernel_rfl) (by simp) ?_
      refine AllReadyH.cons rfl (fun K hK => ?_) AllReadyH.nil
      go_simp
      go_at_call 21
      refine (implBandOf_any N4 P4 L4 m4 d4 zs.length e4 X4 zs _ (hP4.up hV4) (hL4.up hV4) (by omega) (by omega) hcap4.1).mono ?_
      rintro e w404 ⟨rfl, hb404⟩
      have hV5 := Up.then_ hV4 hb404
      go_wp2_with fail
      refine hK.out _ _ (by exact ⟨hV5, fun _ _ hb => hV5.cell hb⟩) (fun hHeld5 => ?_)
      clear hK K
      (try simp only [List.getElem_toArray]); (try simp only [List.getElem_cons_succ]); (try simp only [List.getElem_cons_zero]); (try simp only [Act.put]); (try simp only [List.setIfInBounds_toArray]); (try simp only [List.set_cons_succ]); (try simp only [List.set_cons_zero])
      refine wpAnyH_ready (rs := [22]) (by kernel_rfl) (by simp) ?_
      refine AllReadyH.cons rfl (fun K hK => ?_) AllReadyH.nil
      go_simp
      go_at_call 28
      refine (specBandOf_any N4 P4 L4 m4 d4 zs.length e4 X4 zs _ (hP4.up hV5) (hL4.up hV5) (by omega) (by omega)).mono ?_
      rintro e w405 ⟨rfl, hb405⟩
      have hV6 := Up.then_ hV5 hb405
      go_wp2_with fail
      refine hK.out _ _ (by exact ⟨hV6, fun _ _ hb => hV6.cell hb⟩) (fun hHeld6 => ?_)
      clear hK K
      (try simp only [List.getElem_toArray]); (try simp only [List.getElem_cons_succ]); (try simp only [List.getElem_cons_zero]); (try simp only [Act.put]); (try simp only [List.setIfInBounds_toArray]); (try simp only [List.set_cons_succ]); (try simp only [List.set_cons_zero])
      refine wpAnyH_take (i := 23) (v := ?_) rfl (by kernel_rfl) (by kernel_rfl) (by kernel_rfl) (fun _ _ _ h => h) (Or.inl ⟨by rfl, ?_⟩) (by assumption) ?_
      rotate_left
      · (intro w' hSw; go_simp; try with_reducible rfl)
      (try simp only [List.getElem_toArray]); (try simp only [List.getElem_cons_succ]); (try simp only [List.getElem_cons_zero]); (try simp only [Act.put]); (try simp only [List.setIfInBounds_toArray]); (try simp only [List.set_cons_succ]); (try simp only [List.set_cons_zero])
      refine wpAnyH_take (i := 24) (v := ?_) rfl (by kernel_rfl) (by kernel_rfl) (by kernel_rfl) (fun _ _ _ h => h) (Or.inl ⟨by rfl, ?_⟩) (by assumption) ?_
      rotate_left
      · (intro w' hSw; go_simp; try with_reducible rfl)
      (try simp only [List.getElem_toArray]); (try simp only [List.getElem_cons_succ]); (try simp only [List.getElem_cons_zero]); (try simp only [Act.put]); (try simp only [List.setIfInBounds_toArray]); (try simp only [List.set_cons_succ]); (try simp only [List.set_cons_zero])
      refine wpAnyH_take (i := 25) (v := ?_) rfl (by kernel_rfl) (by kernel_rfl) (by kernel_rfl) (fun _ _ _ h => h) (Or.inl ⟨by rfl, ?_⟩) (by assumption) ?_
      rotate_left
      · (intro w' hSw; go_simp; try with_reducible rfl)
      (try simp only [List.getElem_toArray]); (try simp only [List.getElem_cons_succ]); (try simp only [List.getElem_cons_zero]); (try simp only [Act.put]); (try simp only [List.setIfInBounds_toArray]); (try simp only [List.set_cons_succ]); (try simp only [List.set_cons_zero])
      refine wpAnyH_done (by kernel_rfl) ?_ _
      have hU40 := hV6
      go_wp2
      go_ret
      exact ⟨rfl, Up.then_ hw35 hU40⟩
    · clear hpo hum hO5 hG9 yhG9 lhG9 hP8 hQ8 hO11
      go_wp2_with fail
      have hV0 : Up w16 w16.drew := (Up.refl _).drew
      refine wp_region_held_drew (S := (fun w' => Up w16 w' ∧ (∀ b o, b < w16.heap.size → w'.cell? ⟨b, o, none⟩ = w16.cell? ⟨b, o, none⟩))) (by kernel_rfl) (by exact ⟨hV0, fun _ _ hb => hV0.cell hb⟩) (fun hHeld => ?_)
      refine wpAnyH_take (i := 0) (v := ?_) rfl (by kernel_rfl) (by kernel_rfl) (by kernel_rfl) (fun _ _ _ h => h) (Or.inl ⟨by rfl, ?_⟩) (by assumption) ?_
      rotate_left
      · (intro w' hSw; go_simp; try with_reducible rfl)
      (try simp only [List.getElem_toArray]); (try simp only [List.getElem_cons_succ]); (try simp only [List.getElem_cons_zero]); (try simp only [Act.put]); (try simp only [List.setIfInBounds_toArray]); (try simp only [List.set_cons_succ]); (try simp only [List.set_cons_zero])
      refine wpAnyH_take (i := 1) (v := ?_) rfl (by kernel_rfl) (by kernel_rfl) (by kernel_rfl) (fun _ _ _ h => h) (Or.inl ⟨by rfl, ?_⟩) (by assumption) ?_
      rotate_left
      · (intro w' hSw; go_simp; try with_reducible rfl)
      (try simp only [List.getElem_toArray]); (try simp only [List.getElem_cons_succ]); (try simp only [List.getElem_cons_zero]); (try simp only [Act.put]); (try simp only [List.setIfInBounds_toArray]); (try simp only [List.set_cons_succ]); (try simp only [List.set_cons_zero])
      refine wpAnyH_take (i := 2) (v := undef) rfl (by kernel_rfl) (by kernel_rfl) (by kernel_rfl) (fun _ _ _ h => h) (Or.inr ⟨by rfl, rfl⟩) (by assumption) ?_
      (try simp only [List.getElem_toArray]); (try simp only [List.getElem_cons_succ]); (try simp only [List.getElem_cons_zero]); (try simp only [Act.put]); (try simp only [List.setIfInBounds_toArray]); (try simp only [List.set_cons_succ]); (try simp only [List.set_cons_zero])
      refine wpAnyH_take (i := 3) (v := undef) rfl (by kernel_rfl) (by kernel_rfl) (by kernel_rfl) (fun _ _ _ h => h) (Or.inr ⟨by rfl, rfl⟩) (by assumption) ?_
      (try simp only [List.getElem_toArray]); (try simp only [List.getElem_cons_succ]); (try simp only [List.getElem_cons_zero]); (try simp only [Act.put]); (try simp only [List.setIfInBounds_toArray]); (try simp only [List.set_cons_succ]); (try simp only [List.set_cons_zero])
      refine wpAnyH_take (i := 4) (v := undef) rfl (by kernel_rfl) (by kernel_rfl) (by kernel_rfl) (fun _ _ _ h => h) (Or.inr ⟨by rfl, rfl⟩) (by assumption) ?_
      (try simp only [List.getElem_toArray]); (try simp only [List.getElem_cons_succ]); (try simp only [List.getElem_cons_zero]); (try simp only [Act.put]); (try simp only [List.setIfInBounds_toArray]); (try simp only [List.set_cons_succ]); (try simp only [List.set_cons_zero])
      refine wpAnyH_take (i := 5) (v := undef) rfl (by kernel_rfl) (by kernel_rfl) (by kernel_rfl) (fun _ _ _ h => h) (Or.inr ⟨by rfl, rfl⟩) (by assumption) ?_
      (try simp only [List.getElem_toArray]); (try simp only [List.getElem_cons_succ]); (try simp only [List.getElem_cons_zero]); (try simp only [Act.put]); (try simp only [List.setIfInBounds_toArray]); (try simp only [List.set_cons_succ]); (try simp only [List.set_cons_zero])
      refine wpAnyH_take (i := 6) (v := undef) rfl (by kernel_rfl) (by kernel_rfl) (by kernel_rfl) (fun _ _ _ h => h) (Or.inr ⟨by rfl, rfl⟩) (by assumption) ?_
      (try simp only [List.getElem_toArray]); (try simp only [List.getElem_cons_succ]); (try simp only [List.getElem_cons_zero]); (try simp only [Act.put]); (try simp only [List.setIfInBounds_toArray]); (try simp only [List.set_cons_succ]); (try simp only [List.set_cons_zero])
      refine wpAnyH_take (i := 7) (v := undef) rfl (by kernel_rfl) (by kernel_rfl) (by kernel_rfl) (fun _ _ _ h => h) (Or.inr ⟨by rfl, rfl⟩) (by assumption) ?_
      (try simp only [List.getElem_toArray]); (try simp only [List.getElem_cons_succ]); (try simp only [List.getElem_cons_zero]); (try simp only [Act.put]); (try simp only [List.setIfInBounds_toArray]); (try simp only [List.set_cons_succ]); (try simp only [List.set_cons_zero])
      refine wpAnyH_take (i := 8) (v := undef) rfl (by kernel_rfl) (by kernel_rfl) (by kernel_rfl) (fun _ _ _ h => h) (Or.inr ⟨by rfl, rfl⟩) (by assumption) ?_
      (try simp only [List.getElem_toArray]); (try simp only [List.getElem_cons_succ]); (try simp only [List.getElem_cons_zero]); (try simp only [Act.put]); (try simp only [List.setIfInBounds_toArray]); (try simp only [List.set_cons_succ]); (try simp only [List.set_cons_zero])
      refine wpAnyH_take (i := 9) (v := undef) rfl (by kernel_rfl) (by kernel_rfl) (by kernel_rfl) (fun _ _ _ h => h) (Or.inr ⟨by rfl, rfl⟩) (by assumption) ?_
      (try simp only [List.getElem_toArray]); (try simp only [List.getElem_cons_succ]); (try simp only [List.getElem_cons_zero]); (try simp only [Act.put]); (try simp only [List.setIfInBounds_toArray]); (try simp only [List.set_cons_succ]); (try simp only [List.set_cons_zero])
      refine wpAnyH_take (i := 10) (v := undef) rfl (by kernel_rfl) (by kernel_rfl) (by kernel_rfl) (fun _ _ _ h => h) (Or.inr ⟨by rfl, rfl⟩) (by assumption) ?_
      (try simp only [List.getElem_toArray]); (try simp only [List.getElem_cons_succ]); (try simp only [List.getElem_cons_zero]); (try simp only [Act.put]); (try simp only [List.setIfInBounds_toArray]); (try simp only [List.set_cons_succ]); (try simp only [List.set_cons_zero])
      refine wpAnyH_take (i := 11) (v := undef) rfl (by kernel_rfl) (by kernel_rfl) (by kernel_rfl) (fun _ _ _ h => h) (Or.inr ⟨by rfl, rfl⟩) (by assumption) ?_
      (try simp only [List.getElem_toArray]); (try simp only [List.getElem_cons_succ]); (try simp only [List.getElem_cons_zero]); (try simp only [Act.put]); (try simp only [List.setIfInBounds_toArray]); (try simp only [List.set_cons_succ]); (try simp only [List.set_cons_zero])
      refine wpAnyH_take (i := 12) (v := undef) rfl (by kernel_rfl) (by kernel_rfl) (by kernel_rfl) (fun _ _ _ h => h) (Or.inr ⟨by rfl, rfl⟩) (by assumption) ?_
      (try simp only [List.getElem_toArray]); (try simp only [List.getElem_cons_succ]); (try simp only [List.getElem_cons_zero]); (try simp only [Act.put]); (try simp only [List.setIfInBounds_toArray]); (try simp only [List.set_cons_succ]); (try simp only [List.set_cons_zero])
      refine wpAnyH_take (i := 13) (v := undef) rfl (by kernel_rfl) (by kernel_rfl) (by kernel_rfl) (fun _ _ _ h => h) (Or.inr ⟨by rfl, rfl⟩) (by assumption) ?_
      (try simp only [List.getElem_toArray]); (try simp only [List.getElem_cons_succ]); (try simp only [List.getElem_cons_zero]); (try simp only [Act.put]); (try simp only [List.setIfInBounds_toArray]); (try simp only [List.set_cons_succ]); (try simp only [List.set_cons_zero])
      refine wpAnyH_take (i := 14) (v := undef) rfl (by kernel_rfl) (by kernel_rfl) (by kernel_rfl) (fun _ _ _ h => h) (Or.inr ⟨by rfl, rfl⟩) (by assumption) ?_
      (try simp only [List.getElem_toArray]); (try simp only [List.getElem_cons_succ]); (try simp only [List.getElem_cons_zero]); (try simp only [Act.put]); (try simp only [List.setIfInBounds_toArray]); (try simp only [List.set_cons_succ]); (try simp only [List.set_cons_zero])
      refine wpAnyH_take (i := 15) (v := undef) rfl (by kernel_rfl) (by kernel_rfl) (by kernel_rfl) (fun _ _ _ h => h) (Or.inr ⟨by rfl, rfl⟩) (by assumption) ?_
      (try simp only [List.getElem_toArray]); (try simp only [List.getElem_cons_succ]); (try simp only [List.getElem_cons_zero]); (try simp only [Act.put]); (try simp only [List.setIfInBounds_toArray]); (try simp only [List.set_cons_succ]); (try simp only [List.set_cons_zero])
      refine wpAnyH_take (i := 16) (v := undef) rfl (by kernel_rfl) (by kernel_rfl) (by kernel_rfl) (fun _ _ _ h => h) (Or.inr ⟨by rfl, rfl⟩) (by assumption) ?_
      (try simp only [List.getElem_toArray]); (try simp only [List.getElem_cons_succ]); (try simp only [List.getElem_cons_zero]); (try simp only [Act.put]); (try simp only [List.setIfInBounds_toArray]); (try simp only [List.set_cons_succ]); (try simp only [List.set_cons_zero])
      refine wpAnyH_take (i := 17) (v := undef) rfl (by kernel_rfl) (by kernel_rfl) (by kernel_rfl) (fun _ _ _ h => h) (Or.inr ⟨by rfl, rfl⟩) (by assumption) ?_
      (try simp only [List.getElem_toArray]); (try simp only [List.getElem_cons_succ]); (try simp only [List.getElem_cons_zero]); (try simp only [Act.put]); (try simp only [List.setIfInBounds_toArray]); (try simp only [List.set_cons_succ]); (try simp only [List.set_cons_zero])
      refine wpAnyH_take (i := 18) (v := undef) rfl (by kernel_rfl) (by kernel_rfl) (by kernel_rfl) (fun _ _ _ h => h) (Or.inr ⟨by rfl, rfl⟩) (by assumption) ?_
      (try simp only [List.getElem_toArray]); (try simp only [List.getElem_cons_succ]); (try simp only [List.getElem_cons_zero]); (try simp only [Act.put]); (try simp only [List.setIfInBounds_toArray]); (try simp only [List.set_cons_succ]); (try simp only [List.set_cons_zero])
      refine wpAnyH_take (i := 19) (v := undef) rfl (by kernel_rfl) (by kernel_rfl) (by kernel_rfl) (fun _ _ _ h => h) (Or.inr ⟨by rfl, rfl⟩) (by assumption) ?_
      (try simp only [List.getElem_toArray]); (try simp only [List.getElem_cons_succ]); (try simp only [List.getElem_cons_zero]); (try simp only [Act.put]); (try simp only [List.setIfInBounds_toArray]); (try simp only [List.set_cons_succ]); (try simp only [List.set_cons_zero])
      refine wpAnyH_take (i := 20) (v := undef) rfl (by kernel_rfl) (by kernel_rfl) (by kernel_rfl) (fun _ _ _ h => h) (Or.inr ⟨by rfl, rfl⟩) (by assumption) ?_
      (try simp only [List.getElem_toArray]); (try simp only [List.getElem_cons_succ]); (try simp only [List.getElem_cons_zero]); (try simp only [Act.put]); (try simp only [List.setIfInBounds_toArray]); (try simp only [List.set_cons_succ]); (try simp only [List.set_cons_zero])
      refine wpAnyH_take (i := 21) (v := undef) rfl (by kernel_rfl) (by kernel_rfl) (by kernel_rfl) (fun _ _ _ h => h) (Or.inr ⟨by rfl, rfl⟩) (by assumption) ?_
      (try simp only [List.getElem_toArray]); (try simp only [List.getElem_cons_succ]); (try simp only [List.getElem_cons_zero]); (try simp only [Act.put]); (try simp only [List.setIfInBounds_toArray]); (try simp only [List.set_cons_succ]); (try simp only [List.set_cons_zero])
      refine wpAnyH_take (i := 22) (v := undef) rfl (by kernel_rfl) (by kernel_rfl) (by kernel_rfl) (fun _ _ _ h => h) (Or.inr ⟨by rfl, rfl⟩) (by assumption) ?_
      (try simp only [List.getElem_toArray]); (try simp only [List.getElem_cons_succ]); (try simp only [List.getElem_cons_zero]); (try simp only [Act.put]); (try simp only [List.setIfInBounds_toArray]); (try simp only [List.set_cons_succ]); (try simp only [List.set_cons_zero])
      refine wpAnyH_take (i := 23) (v := undef) rfl (by kernel_rfl) (by kernel_rfl) (by kernel_rfl) (fun _ _ _ h => h) (Or.inr ⟨by rfl, rfl⟩) (by assumption) ?_
      (try simp only [List.getElem_toArray]); (try simp only [List.getElem_cons_succ]); (try simp only [List.getElem_cons_zero]); (try simp only [Act.put]); (try simp only [List.setIfInBounds_toArray]); (try simp only [List.set_cons_succ]); (try simp only [List.set_cons_zero])
      refine wpAnyH_take (i := 24) (v := undef) rfl (by kernel_rfl) (by kernel_rfl) (by kernel_rfl) (fun _ _ _ h => h) (Or.inr ⟨by rfl, rfl⟩) (by assumption) ?_
      (try simp only [List.getElem_toArray]); (try simp only [List.getElem_cons_succ]); (try simp only [List.getElem_cons_zero]); (try simp only [Act.put]); (try simp only [List.setIfInBounds_toArray]); (try simp only [List.set_cons_succ]); (try simp only [List.set_cons_zero])
      refine wpAnyH_take (i := 25) (v := undef) rfl (by kernel_rfl) (by kernel_rfl) (by kernel_rfl) (fun _ _ _ h => h) (Or.inr ⟨by rfl, rfl⟩) (by assumption) ?_
      (try simp only [List.getElem_toArray]); (try simp only [List.getElem_cons_succ]); (try simp only [List.getElem_cons_zero]); (try simp only [Act.put]); (try simp only [List.setIfInBounds_toArray]); (try simp only [List.set_cons_succ]); (try simp only [List.set_cons_zero])
      refine wpAnyH_take (i := 26) (v := undef) rfl (by kernel_rfl) (by kernel_rfl) (by kernel_rfl) (fun _ _ _ h => h) (Or.inr ⟨by rfl, rfl⟩) (by assumption) ?_
      (try simp only [List.getElem_toArray]); (try simp only [List.getElem_cons_succ]); (try simp only [List.getElem_cons_zero]); (try simp only [Act.put]); (try simp only [List.setIfInBounds_toArray]); (try simp only [List.set_cons_succ]); (try simp only [List.set_cons_zero])
      refine wpAnyH_take (i := 27) (v := ?_) rfl (by kernel_rfl) (by kernel_rfl) (by kernel_rfl) (fun _ _ _ h => h) (Or.inl ⟨by rfl, ?_⟩) (by assumption) ?_
      rotate_left
      · (intro w' hSw; go_simp; try with_reducible rfl)
      (try simp only [List.getElem_toArray]); (try simp only [List.getElem_cons_succ]); (try simp only [List.getElem_cons_zero]); (try simp only [Act.put]); (try simp only [List.setIfInBounds_toArray]); (try simp only [List.set_cons_succ]); (try simp only [List.set_cons_zero])
      refine wpAnyH_done (by kernel_rfl) ?_ _
      have hU20 := hV0
      have hw20 := Up.then_ hw16 hU20
      replace hB := hB.up hU20
      clear hU20 hV0 hHeld hw16
      generalize w16.drew = w20 at hB hw20 ⊢
      clear hX hG yhG lhG
      have hlowT : ∀ ad, B = some ad → ad.block < w20.heap.size := fun ad e => by have := hlow ad e; have := hw20.size; omega
      go_wp2_with fail
      refine (drawIsUmbrella_any B n c bs _ hB hs hlowT).mono ?_
      rintro e w30 ⟨N2, P2, m2, d2, X2, L2, e2, xs, rfl, hP2, hle2, hL2, hl2, hb30⟩
      have hU30 : Up w20 w30 := Up.then_ (by go_grown) hb30
      replace hB := hB.up hU30
      have hw30 := Up.then_ hw20 hU30
      have hm2 : m2 ≤ 7 := by rw [← hP2.len]; exact le6L_len hle2
      have hcap2 := hL2.cap
      replace hP2 := hP2.ri
      replace hL2 := hL2.ri
      have hU31 : Up w30 (w30.alloc (.cells #[.int .i64 N2, .slice P2 m2 d2] 26)) := by go_grown
      have hG2 := Blk.new w30 26 #[.int .i64 N2, .slice P2 m2 d2]
      have hw31 := Up.then_ hw30 hU31
      replace hP2 := hP2.up hU31
      replace hL2 := hL2.up hU31
      replace hB := hB.up hU31
      obtain ⟨g31, hg31⟩ : ∃ g31, g31 = w30.heap.size := ⟨_, rfl⟩
      rw [← hg31] at hG2
      go_wp2_with fail
      rw [← hg31]
      generalize w30.alloc (.cells #[.int .i64 N2, .slice P2 m2 d2] 26) = w31 at hG2 hP2 hL2 hB hw31 ⊢
      have hlow31 : ∀ ad, B = some ad → ad.block < w31.heap.size := fun ad e => by have := hlow ad e; have := hw31.size; omega
      clear hg31 hU31
      refine (drawIsProperObstacle_any B n c bs _ hB hs hlow31).mono ?_
      rintro e w32 ⟨N3, P3, m3, d3, X3, L3, e3, ys, rfl, hP3, hle3, hL3, hl3, hb32⟩
      have hU32 : Up w31 w32 := hb32
      replace hB := hB.up hU32
      replace hP2 := hP2.up hU32
      replace hL2 := hL2.up hU32
      replace hG2 := hG2.up hU32
      have hw32 := Up.then_ hw31 hU32
      have hm3 : m3 ≤ 7 := by rw [← hP3.len]; exact le6L_len hle3
      have hcap3 := hL3.cap
      replace hP3 := hP3.ri
      replace hL3 := hL3.ri
      have hU33 : Up w32 (w32.alloc (.cells #[.int .i64 N3, .slice P3 m3 d3] 26)) := by go_grown
      have hG3 := Blk.new w32 26 #[.int .i64 N3, .slice P3 m3 d3]
      have hw33 := Up.then_ hw32 hU33
      replace hB := hB.up hU33
      replace hP2 := hP2.up hU33
      replace hL2 := hL2.up hU33
      replace hG2 := hG2.up hU33
      replace hP3 := hP3.up hU33
      replace hL3 := hL3.up hU33
      obtain ⟨g33, hg33⟩ : ∃ g33, g33 = w32.heap.size := ⟨_, rfl⟩
      rw [← hg33] at hG3
      go_wp2_with fail
      rw [← hg33]
      generalize w32.alloc (.cells #[.int .i64 N3, .slice P3 m3 d3] 26) = w33 at hG3 hB hP2 hL2 hG2 hP3 hL3 hw33 ⊢
      have hlow33 : ∀ ad, B = some ad → ad.block < w33.heap.size := fun ad e => by have := hlow ad e; have := hw33.size; omega
      clear hg33 hU33
      refine (drawBandOf_any B n c bs _ hB hs hlow33).mono ?_
      rintro e w34 ⟨N4, P4, m4, d4, X4, L4, e4, zs, rfl, hP4, hle4, hL4, hl4, hb34⟩
      have hU34 : Up w33 w34 := hb34
      replace hB := hB.up hU34
      replace hP2 := hP2.up hU34
      replace hL2 := hL2.up hU34
      replace hG2 := hG2.up hU34
      replace hP3 := hP3.up hU34
      replace hL3 := hL3.up hU34
      replace hG3 := hG3.up hU34
      have hw34 := Up.then_ hw33 hU34
      have hm4 : m4 ≤ 7 := by rw [← hP4.len]; exact le6L_len hle4
      have hcap4 := hL4.cap
      replace hP4 := hP4.ri
      replace hL4 := hL4.ri
      clear hB hlowT hlow31 hlow33
      have hU35 : Up w34 (w34.alloc (.cells #[.int .i64 N4, .slice P4 m4 d4] 26)) := by go_grown
      have hG4 := Blk.new w34 26 #[.int .i64 N4, .slice P4 m4 d4]
      have hw35 := Up.then_ hw34 hU35
      replace hP2 := hP2.up hU35
      replace hL2 := hL2.up hU35
      replace hG2 := hG2.up hU35
      replace hP3 := hP3.up hU35
      replace hL3 := hL3.up hU35
      replace hG3 := hG3.up hU35
      replace hP4 := hP4.up hU35
      replace hL4 := hL4.up hU35
      obtain ⟨g35, hg35⟩ : ∃ g35, g35 = w34.heap.size := ⟨_, rfl⟩
      rw [← hg35] at hG4
      go_wp2_with fail
      rw [← hg35]
      generalize w34.alloc (.cells #[.int .i64 N4, .slice P4 m4 d4] 26) = w35 at hG4 hP2 hL2 hG2 hP3 hL3 hG3 hP4 hL4 hw35 ⊢
      clear hg35 hU35
      have yhG2 := hG2.two
      have lhG2 := hG2.lt
      have yhG3 := hG3.two
      have lhG3 := hG3.lt
      have yhG4 := hG4.two
      have lhG4 := hG4.lt
      clear hw30 hw31 hw32 hw33 hw34 hU30 hU32 hU34 hb30 hb32 hb34 hle2 hle3 hle4
      have hV0 : Up w35 w35.drew := (Up.refl _).drew
      refine wp_region_held_drew (S := (fun w' => Up w35 w' ∧ (∀ b o, b < w35.heap.size → w'.cell? ⟨b, o, none⟩ = w35.cell? ⟨b, o, none⟩))) (by kernel_rfl) (by exact ⟨hV0, fun _ _ hb => hV0.cell hb⟩) (fun hHeld => ?_)
      refine wpAnyH_take (i := 0) (v := ?_) rfl (by kernel_rfl) (by kernel_rfl) (by kernel_rfl) (fun _ _ _ h => h) (Or.inl ⟨by rfl, ?_⟩) (by assumption) ?_
      rotate_left
      · (intro w' hSw; go_simp; try with_reducible rfl)
      (try simp only [List.getElem_toArray]); (try simp only [List.getElem_cons_succ]); (try simp only [List.getElem_cons_zero]); (try simp only [Act.put]); (try simp only [List.setIfInBounds_toArray]); (try simp only [List.set_cons_succ]); (try simp only [List.set_cons_zero])
      refine wpAnyH_take (i := 1) (v := ?_) rfl (by kernel_rfl) (by kernel_rfl) (by kernel_rfl) (fun _ _ _ h => h) (Or.inl ⟨by rfl, ?_⟩) (by assumption) ?_
      rotate_left
      · (intro w' hSw; go_simp; try with_reducible rfl)
      (try simp only [List.getElem_toArray]); (try simp only [List.getElem_cons_succ]); (try simp only [List.getElem_cons_zero]); (try simp only [Act.put]); (try simp only [List.setIfInBounds_toArray]); (try simp only [List.set_cons_succ]); (try simp only [List.set_cons_zero])
      refine wpAnyH_take (i := 3) (v := ?_) rfl (by kernel_rfl) (by kernel_rfl) (by kernel_rfl) (fun _ _ _ h => h) (Or.inl ⟨by rfl, ?_⟩) (by assumption) ?_
      rotate_left
      · (intro w' hSw; go_simp; try with_reducible rfl)
      (try simp only [List.getElem_toArray]); (try simp only [List.getElem_cons_succ]); (try simp only [List.getElem_cons_zero]); (try simp only [Act.put]); (try simp only [List.setIfInBounds_toArray]); (try simp only [List.set_cons_succ]); (try simp only [List.set_cons_zero])
      refine wpAnyH_take (i := 4) (v := ?_) rfl (by kernel_rfl) (by kernel_rfl) (by kernel_rfl) (fun _ _ _ h => h) (Or.inl ⟨by rfl, ?_⟩) (by assumption) ?_
      rotate_left
      · (intro w' hSw; go_simp; try with_reducible rfl)
      (try simp only [List.getElem_toArray]); (try simp only [List.getElem_cons_succ]); (try simp only [List.getElem_cons_zero]); (try simp only [Act.put]); (try simp only [List.setIfInBounds_toArray]); (try simp only [List.set_cons_succ]); (try simp only [List.set_cons_zero])
      refine wpAnyH_ready (rs := [2]) (by kernel_rfl) (by simp) ?_
      refine AllReadyH.cons rfl (fun K hK => ?_) AllReadyH.nil
      go_simp
      go_at_call 18
      refine (implIsUmbrella_cap N2 P2 L2 m2 d2 xs.length e2 X2 xs _ (hP2.up hV0) (hL2.up hV0) (by omega) (by omega) hcap2.1 hcap2.2).mono ?_
      rintro e w400 ⟨rfl, hb400⟩
      have hV1 := Up.then_ hV0 hb400
      go_wp2_with fail
      refine hK.out _ _ (by exact ⟨hV1, fun _ _ hb => hV1.cell hb⟩) (fun hHeld1 => ?_)
      clear hK K
      (try simp only [List.getElem_toArray]); (try simp only [List.getElem_cons_succ]); (try simp only [List.getElem_cons_zero]); (try simp only [Act.put]); (try simp only [List.setIfInBounds_toArray]); (try simp only [List.set_cons_succ]); (try simp only [List.set_cons_zero])
      refine wpAnyH_ready (rs := [5]) (by kernel_rfl) (by simp) ?_
      refine AllReadyH.cons rfl (fun K hK => ?_) AllReadyH.nil
      go_simp
      go_at_call 26
      refine (specIsUmbrella_cap N2 P2 L2 m2 d2 xs.length e2 X2 xs _ (hP2.up hV1) (hL2.up hV1) (by omega) (by omega) hcap2.1 hcap2.2).mono ?_
      rintro e w401 ⟨rfl, hb401⟩
      have hV2 := Up.then_ hV1 hb401
      go_wp2_with fail
      refine hK.out _ _ (by exact ⟨hV2, fun _ _ hb => hV2.cell hb⟩) (fun hHeld2 => ?_)
      clear hK K
      (try simp only [List.getElem_toArray]); (try simp only [List.getElem_cons_succ]); (try simp only [List.getElem_cons_zero]); (try simp only [Act.put]); (try simp only [List.setIfInBounds_toArray]); (try simp only [List.set_cons_succ]); (try simp only [List.set_cons_zero])
      refine wpAnyH_take (i := 6) (v := ?_) rfl (by kernel_rfl) (by kernel_rfl) (by kernel_rfl) (fun _ _ _ h => h) (Or.inl ⟨by rfl, ?_⟩) (by assumption) ?_
      rotate_left
      · (intro w' hSw; go_simp; try with_reducible rfl)
      (try simp only [List.getElem_toArray]); (try simp only [List.getElem_cons_succ]); (try simp only [List.getElem_cons_zero]); (try simp only [Act.put]); (try simp only [List.setIfInBounds_toArray]); (try simp only [List.set_cons_succ]); (try simp only [List.set_cons_zero])
      refine wpAnyH_take (i := 7) (v := ?_) rfl (by kernel_rfl) (by kernel_rfl) (by kernel_rfl) (fun _ _ _ h => h) (Or.inl ⟨by rfl, ?_⟩) (by assumption) ?_
      rotate_left
      · (intro w' hSw; go_simp; try with_reducible rfl)
      (try simp only [List.getElem_toArray]); (try simp only [List.getElem_cons_succ]); (try simp only [List.getElem_cons_zero]); (try simp only [Act.put]); (try simp only [List.setIfInBounds_toArray]); (try simp only [List.set_cons_succ]); (try simp only [List.set_cons_zero])
      refine wpAnyH_take (i := 8) (v := ?_) rfl (by kernel_rfl) (by kernel_rfl) (by kernel_rfl) (fun _ _ _ h => h) (Or.inl ⟨by rfl, ?_⟩) (by assumption) ?_
      rotate_left
      · (intro w' hSw; go_simp; try with_reducible rfl)
      (try simp only [List.getElem_toArray]); (try simp only [List.getElem_cons_succ]); (try simp only [List.getElem_cons_zero]); (try simp only [Act.put]); (try simp only [List.setIfInBounds_toArray]); (try simp only [List.set_cons_succ]); (try simp only [List.set_cons_zero])
      refine wpAnyH_take (i := 9) (v := ?_) rfl (by kernel_rfl) (by kernel_rfl) (by kernel_rfl) (fun _ _ _ h => h) (Or.inl ⟨by rfl, ?_⟩) (by assumption) ?_
      rotate_left
      · (intro w' hSw; go_simp; try with_reducible rfl)
      (try simp only [List.getElem_toArray]); (try simp only [List.getElem_cons_succ]); (try simp only [List.getElem_cons_zero]); (try simp only [Act.put]); (try simp only [List.setIfInBounds_toArray]); (try simp only [List.set_cons_succ]); (try simp only [List.set_cons_zero])
      refine wpAnyH_take (i := 11) (v := ?_) rfl (by kernel_rfl) (by kernel_rfl) (by kernel_rfl) (fun _ _ _ h => h) (Or.inl ⟨by rfl, ?_⟩) (by assumption) ?_
      rotate_left
      · (intro w' hSw; go_simp; try with_reducible rfl)
      (try simp only [List.getElem_toArray]); (try simp only [List.getElem_cons_succ]); (try simp only [List.getElem_cons_zero]); (try simp only [Act.put]); (try simp only [List.setIfInBounds_toArray]); (try simp only [List.set_cons_succ]); (try simp only [List.set_cons_zero])
      refine wpAnyH_take (i := 12) (v := ?_) rfl (by kernel_rfl) (by kernel_rfl) (by kernel_rfl) (fun _ _ _ h => h) (Or.inl ⟨by rfl, ?_⟩) (by assumption) ?_
      rotate_left
      · (intro w' hSw; go_simp; try with_reducible rfl)
      (try simp only [List.getElem_toArray]); (try simp only [List.getElem_cons_succ]); (try simp only [List.getElem_cons_zero]); (try simp only [Act.put]); (try simp only [List.setIfInBounds_toArray]); (try simp only [List.set_cons_succ]); (try simp only [List.set_cons_zero])
      refine wpAnyH_ready (rs := [10]) (by kernel_rfl) (by simp) ?_
      refine AllReadyH.cons rfl (fun K hK => ?_) AllReadyH.nil
      go_simp
      go_at_call 17
      refine (implIsPrObs_any N3 P3 L3 m3 d3 ys.length e3 X3 ys _ (hP3.up hV2) (hL3.up hV2) (by omega) (by omega) hcap3.1).mono ?_
      rintro e w402 ⟨rfl, hb402⟩
      have hV3 := Up.then_ hV2 hb402
      go_wp2_with fail
      refine hK.out _ _ (by exact ⟨hV3, fun _ _ hb => hV3.cell hb⟩) (fun hHeld3 => ?_)
      clear hK K
      (try simp only [List.getElem_toArray]); (try simp only [List.getElem_cons_succ]); (try simp only [List.getElem_cons_zero]); (try simp only [Act.put]); (try simp only [List.setIfInBounds_toArray]); (try simp only [List.set_cons_succ]); (try simp only [List.set_cons_zero])
      refine wpAnyH_ready (rs := [13]) (by kernel_rfl) (by simp) ?_
      refine AllReadyH.cons rfl (fun K hK => ?_) AllReadyH.nil
      go_simp
      go_at_call 27
      refine (specIsPrObs_any N3 P3 L3 m3 d3 ys.length e3 X3 ys _ (hP3.up hV3) (hL3.up hV3) (by omega) (by omega)).mono ?_
      rintro e w403 ⟨rfl, hb403⟩
      have hV4 := Up.then_ hV3 hb403
      go_wp2_with fail
      refine hK.out _ _ (by exact ⟨hV4, fun _ _ hb => hV4.cell hb⟩) (fun hHeld4 => ?_)
      clear hK K
      (try simp only [List.getElem_toArray]); (try simp only [List.getElem_cons_succ]); (try simp only [List.getElem_cons_zero]); (try simp only [Act.put]); (try simp only [List.setIfInBounds_toArray]); (try simp only [List.set_cons_succ]); (try simp only [List.set_cons_zero])
      refine wpAnyH_take (i := 14) (v := ?_) rfl (by kernel_rfl) (by kernel_rfl) (by kernel_rfl) (fun _ _ _ h => h) (Or.inl ⟨by rfl, ?_⟩) (by assumption) ?_
      rotate_left
      · (intro w' hSw; go_simp; try with_reducible rfl)
      (try simp only [List.getElem_toArray]); (try simp only [List.getElem_cons_succ]); (try simp only [List.getElem_cons_zero]); (try simp only [Act.put]); (try simp only [List.setIfInBounds_toArray]); (try simp only [List.set_cons_succ]); (try simp only [List.set_cons_zero])
      refine wpAnyH_take (i := 15) (v := ?_) rfl (by kernel_rfl) (by kernel_rfl) (by kernel_rfl) (fun _ _ _ h => h) (Or.inl ⟨by rfl, ?_⟩) (by assumption) ?_
      rotate_left
      · (intro w' hSw; go_simp; try with_reducible rfl)
      (try simp only [List.getElem_toArray]); (try simp only [List.getElem_cons_succ]); (try simp only [List.getElem_cons_zero]); (try simp only [Act.put]); (try simp only [List.setIfInBounds_toArray]); (try simp only [List.set_cons_succ]); (try simp only [List.set_cons_zero])
      refine wpAnyH_take (i := 16) (v := ?_) rfl (by kernel_rfl) (by kernel_rfl) (by kernel_rfl) (fun _ _ _ h => h) (Or.inl ⟨by rfl, ?_⟩) (by assumption) ?_
      rotate_left
      · (intro w' hSw; go_simp; try with_reducible rfl)
      (try simp only [List.getElem_toArray]); (try simp only [List.getElem_cons_succ]); (try simp only [List.getElem_cons_zero]); (try simp only [Act.put]); (try simp only [List.setIfInBounds_toArray]); (try simp only [List.set_cons_succ]); (try simp only [List.set_cons_zero])
      refine wpAnyH_take (i := 17) (v := ?_) rfl (by kernel_rfl) (by kernel_rfl) (by kernel_rfl) (fun _ _ _ h => h) (Or.inl ⟨by rfl, ?_⟩) (by assumption) ?_
      rotate_left
      · (intro w' hSw; go_simp; try with_reducible rfl)
      (try simp only [List.getElem_toArray]); (try simp only [List.getElem_cons_succ]); (try simp only [List.getElem_cons_zero]); (try simp only [Act.put]); (try simp only [List.setIfInBounds_toArray]); (try simp only [List.set_cons_succ]); (try simp only [List.set_cons_zero])
      refine wpAnyH_take (i := 18) (v := ?_) rfl (by kernel_rfl) (by kernel_rfl) (by kernel_rfl) (fun _ _ _ h => h) (Or.inl ⟨by rfl, ?_⟩) (by assumption) ?_
      rotate_left
      · (intro w' hSw; go_simp; try with_reducible rfl)
      (try simp only [List.getElem_toArray]); (try simp only [List.getElem_cons_succ]); (try simp only [List.getElem_cons_zero]); (try simp only [Act.put]); (try simp only [List.setIfInBounds_toArray]); (try simp only [List.set_cons_succ]); (try simp only [List.set_cons_zero])
      refine wpAnyH_take (i := 20) (v := ?_) rfl (by kernel_rfl) (by kernel_rfl) (by kernel_rfl) (fun _ _ _ h => h) (Or.inl ⟨by rfl, ?_⟩) (by assumption) ?_
      rotate_left
      · (intro w' hSw; go_simp; try with_reducible rfl)
      (try simp only [List.getElem_toArray]); (try simp only [List.getElem_cons_succ]); (try simp only [List.getElem_cons_zero]); (try simp only [Act.put]); (try simp only [List.setIfInBounds_toArray]); (try simp only [List.set_cons_succ]); (try simp only [List.set_cons_zero])
      refine wpAnyH_take (i := 21) (v := ?_) rfl (by kernel_rfl) (by kernel_rfl) (by kernel_rfl) (fun _ _ _ h => h) (Or.inl ⟨by rfl, ?_⟩) (by assumption) ?_
      rotate_left
      · (intro w' hSw; go_simp; try with_reducible rfl)
      (try simp only [List.getElem_toArray]); (try simp only [List.getElem_cons_succ]); (try simp only [List.getElem_cons_zero]); (try simp only [Act.put]); (try simp only [List.setIfInBounds_toArray]); (try simp only [List.set_cons_succ]); (try simp only [List.set_cons_zero])
      refine wpAnyH_ready (rs := [19]) (by kernel_rfl) (by simp) ?_
      refine AllReadyH.cons rfl (fun K hK => ?_) AllReadyH.nil
      go_simp
      go_at_call 21
      refine (implBandOf_any N4 P4 L4 m4 d4 zs.length e4 X4 zs _ (hP4.up hV4) (hL4.up hV4) (by omega) (by omega) hcap4.1).mono ?_
      rintro e w404 ⟨rfl, hb404⟩
      have hV5 := Up.then_ hV4 hb404
      go_wp2_with fail
      refine hK.out _ _ (by exact ⟨hV5, fun _ _ hb => hV5.cell hb⟩) (fun hHeld5 => ?_)
      clear hK K
      (try simp only [List.getElem_toArray]); (try simp only [List.getElem_cons_succ]); (try simp only [List.getElem_cons_zero]); (try simp only [Act.put]); (try simp only [List.setIfInBounds_toArray]); (try simp only [List.set_cons_succ]); (try simp only [List.set_cons_zero])
      refine wpAnyH_ready (rs := [22]) (by kernel_rfl) (by simp) ?_
      refine AllReadyH.cons rfl (fun K hK => ?_) AllReadyH.nil
      go_simp
      go_at_call 28
      refine (specBandOf_any N4 P4 L4 m4 d4 zs.length e4 X4 zs _ (hP4.up hV5) (hL4.up hV5) (by omega) (by omega)).mono ?_
      rintro e w405 ⟨rfl, hb405⟩
      have hV6 := Up.then_ hV5 hb405
      go_wp2_with fail
      refine hK.out _ _ (by exact ⟨hV6, fun _ _ hb => hV6.cell hb⟩) (fun hHeld6 => ?_)
      clear hK K
      (try simp only [List.getElem_toArray]); (try simp only [List.getElem_cons_succ]); (try simp only [List.getElem_cons_zero]); (try simp only [Act.put]); (try simp only [List.setIfInBounds_toArray]); (try simp only [List.set_cons_succ]); (try simp only [List.set_cons_zero])
      refine wpAnyH_take (i := 23) (v := ?_) rfl (by kernel_rfl) (by kernel_rfl) (by kernel_rfl) (fun _ _ _ h => h) (Or.inl ⟨by rfl, ?_⟩) (by assumption) ?_
      rotate_left
      · (intro w' hSw; go_simp; try with_reducible rfl)
      (try simp only [List.getElem_toArray]); (try simp only [List.getElem_cons_succ]); (try simp only [List.getElem_cons_zero]); (try simp only [Act.put]); (try simp only [List.setIfInBounds_toArray]); (try simp only [List.set_cons_succ]); (try simp only [List.set_cons_zero])
      refine wpAnyH_take (i := 24) (v := ?_) rfl (by kernel_rfl) (by kernel_rfl) (by kernel_rfl) (fun _ _ _ h => h) (Or.inl ⟨by rfl, ?_⟩) (by assumption) ?_
      rotate_left
      · (intro w' hSw; go_simp; try with_reducible rfl)
      (try simp only [List.getElem_toArray]); (try simp only [List.getElem_cons_succ]); (try simp only [List.getElem_cons_zero]); (try simp only [Act.put]); (try simp only [List.setIfInBounds_toArray]); (try simp only [List.set_cons_succ]); (try simp only [List.set_cons_zero])
      refine wpAnyH_take (i := 25) (v := ?_) rfl (by kernel_rfl) (by kernel_rfl) (by kernel_rfl) (fun _ _ _ h => h) (Or.inl ⟨by rfl, ?_⟩) (by assumption) ?_
      rotate_left
      · (intro w' hSw; go_simp; try with_reducible rfl)
      (try simp only [List.getElem_toArray]); (try simp only [List.getElem_cons_succ]); (try simp only [List.getElem_cons_zero]); (try simp only [Act.put]); (try simp only [List.setIfInBounds_toArray]); (try simp only [List.set_cons_succ]); (try simp only [List.set_cons_zero])
      refine wpAnyH_done (by kernel_rfl) ?_ _
      have hU40 := hV6
      go_wp2
      go_ret
      exact ⟨rfl, Up.then_ hw35 hU40⟩
  · go_enter Tryz.func3, Tryz.ntmps3
    go_wp2_with fail
    refine (big_yes B n c _ (by omega) hn).mono ?_
    rintro e w1 ⟨rfl, hb1⟩
    have hU1 : Up w w1 := Up.then_ (by go_grown) hb1
    go_wp2
    go_ret
    exact ⟨rfl, hU1⟩
end Go.Proofs.YthncdjcmlpiebaaGreat
