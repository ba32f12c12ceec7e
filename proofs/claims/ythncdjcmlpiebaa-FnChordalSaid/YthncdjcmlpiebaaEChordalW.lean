/- The law FnChordal: its walk. -/
import Derived.Test.YthncdjcmlpiebaaDrC
import Derived.Test.YthncdjcmlpiebaaLawH
import Derived.Test.YthncdjcmlpiebaaW6H
import Derived.Test.YthncdjcmlpiebaaW6S
import Derived.Test.YthncdjcmlpiebaaW10A
import Derived.Test.YthncdjcmlpiebaaW4C
namespace Go.Proofs.Ythncdjcmlpiebaa
open Go.RowKit
theorem simpL_small (N : Int) (X : List Int) : (simpL N X).length ≤ 7 := by
  rcases graph_cases N X with hg | ⟨k, Q, rfl, rfl, h⟩
  · rw [simpL_no hg]; simp
  · rw [simpL_ok h, ints_len]
    have := filtS_len (fun v => clq Q (nb Q v)) k
    have := h.le
    omega
theorem fillOf_small (N : Int) (X l : List Int) : (fillOf N X l).length ≤ 49 := by
  rcases isOrder_cases N X l with hg | ⟨hg, n, Q, o, rfl, rfl, rfl, h, ho, hol⟩
  · rw [fillOf_no hg]; simp
  · rw [fillOf_ok hg h, fillL]
    exact Nat.le_trans (List.length_filter_le _ _) (edges_few h.le)
theorem row2_rows {l : List (Nat × Nat)} {ps : List RowP} (h : ps.map Prod.snd = l.map row2) : ∀ p ∈ ps, p.2.length ≤ 1048576 := fun p hp => by
  have h1 : p.2 ∈ ps.map Prod.snd := List.mem_map.2 ⟨p, hp, rfl⟩
  rw [h] at h1
  obtain ⟨q, _, e⟩ := List.mem_map.1 h1
  rw [← e]
  show 2 ≤ 1048576
  omega
set_option maxRecDepth 100000 in
set_option maxHeartbeats 8000000 in
theorem lawChordal_any (B : Option Addr) (n c : Nat) (bs : List Int) (w : World) (hB : RB w B n bs) (hlow : ∀ ad, B = some ad → ad.block < w.heap.size) (hn : n ≤ 9223372036854775807) :
    Calls Try.prog 4 #[.slice B n c] w fun e w' => e = .returned (.bool true) ∧ Below w.heap.size w w' := by
  by_cases hs : n ≤ 1048576
  · go_enter Try.func4, Try.ntmps4
    go_wp2_with fail
    refine (big_no B n c _ hs).mono ?_
    rintro e w1 ⟨rfl, hb1⟩
    have hU1 : Up w w1 := Up.then_ (by go_grown) hb1
    replace hB := hB.up hU1
    have hlow1 : ∀ ad, B = some ad → ad.block < w1.heap.size := fun ad e => by have := hlow ad e; have := hU1.size; omega
    have hw1 : Below w.heap.size w w1 := hU1
    go_wp2_with fail
    refine (drawIsChordal_any B n c bs _ hB hs hlow1).mono ?_
    rintro e w2 ⟨N, A, m, d, X, rfl, hX, hle, hb2⟩
    have hU2 : Up w1 w2 := Up.then_ (by go_grown) hb2
    replace hB := hB.up hU2
    have hw2 := Up.then_ hw1 hU2
    have hm6 : m ≤ 6 := by rw [← hX.len]; exact hle
    have hU3 : Up w2 (w2.alloc (.cells #[.int .i64 N, .slice A m d] 26)) := by go_grown
    have hG := Blk.new w2 26 #[.int .i64 N, .slice A m d]
    have hw3 := Up.then_ hw2 hU3
    replace hX := hX.ri.up hU3
    replace hB := hB.up hU3
    obtain ⟨gb, hgb⟩ : ∃ gb, gb = w2.heap.size := ⟨_, rfl⟩
    rw [← hgb] at hG
    go_wp2_with fail
    rw [← hgb]
    generalize w2.alloc (.cells #[.int .i64 N, .slice A m d] 26) = w3 at hG hX hB hw3 ⊢
    clear hgb hU1 hU2 hU3 hw1 hw2 hb1 hb2 hlow1 hle
    have yhG := hG.two
    have lhG := hG.lt
    obtain ⟨b, hbb⟩ : ∃ b, b = (elimOf N X).isSome := ⟨_, rfl⟩
    obtain ⟨el, hel⟩ : ∃ el, el = optL (elimOf N X) := ⟨_, rfl⟩
    obtain ⟨ho, hho⟩ : ∃ ho, ho = (holeOf N X).isSome := ⟨_, rfl⟩
    obtain ⟨ig, hig⟩ : ∃ ig, ig = isGraph N X := ⟨_, rfl⟩
    have hell : el.length ≤ 127 := by rw [hel]; exact elimOf_len7
    have HI : ∀ w', RI w' A m X → Calls Try.prog 25 #[.agg #[.int .i64 N, .slice A m d]] w' (GivesIB el b w') := fun w' h => by rw [hel, hbb]; exact implEliminationOf_any N A m d X _ h (by omega)
    have HS : ∀ w', RI w' A m X → Calls Try.prog 26 #[.agg #[.int .i64 N, .slice A m d]] w' (GivesIB el b w') := fun w' h => by rw [hel, hbb]; exact specEliminationOf_any N A m d X _ h (by omega)
    have HH : ∀ w', RI w' A m X → Calls Try.prog 27 #[.agg #[.int .i64 N, .slice A m d]] w' (GivesIB (optL (holeOf N X)) ho w') := fun w' h => by rw [hho]; exact specFindHole_any N A m d X _ h (by omega)
    have HC : ∀ w', RI w' A m X → Calls Try.prog 28 #[.agg #[.int .i64 N, .slice A m d]] w' (fun e w'' => e = .returned (.bool b) ∧ Below w'.heap.size w' w'') := fun w' h => by exact implIsChordal_is h (by omega) hbb.symm
    have HG : ∀ w', RI w' A m X → Calls Try.prog 29 #[.agg #[.int .i64 N, .slice A m d]] w' (fun e w'' => e = .returned (.bool ig) ∧ Below w'.heap.size w' w'') := fun w' h => by rw [hig]; exact specIsGraph_any N A m d X _ h (by omega)
    have HIFF := Lib.hid (show b = (ig && !ho) by rw [hbb, hig, hho]; exact chordal_iff N X)
    have HFA := Lib.hid (show b = true → 1 ≤ N ∧ isOrder N X el = true ∧ isElim N X el = true ∧ (fillOf N X el).length = 0 ∧ simpL N X ≠ [] ∧ ∀ s : Int, 0 ≤ s → s < N → isLexElim N X s = true from fun e => by
      rcases he : elimOf N X with _ | t
      · rw [hbb, he] at e; cases e
      · have h1 := chordal_facts he
        have e2 : el = ints t := by rw [hel, he]; rfl
        rw [e2]
        exact h1.2)
    clear hbb hel hho hig
    go_wp2_with fail
    refine (HI _ hX).mono ?_
    rintro e w4 ⟨A4, c4, rfl, hO4, hb4⟩
    have hU4 : Up w3 w4 := Up.then_ (by go_grown) hb4
    replace hX := hX.up hU4
    replace hB := hB.up hU4
    replace hG := hG.up hU4
    replace yhG := hG.two
    replace lhG := hG.lt
    replace yhG := hG.two
    replace lhG := hG.lt
    have hw4 := Up.then_ hw3 hU4
    go_wp2_with fail
    refine (HS _ hX).mono ?_
    rintro e w5 ⟨A5, c5, rfl, hO5, hb5⟩
    have hU5 : Up w4 w5 := Up.then_ (by go_grown) hb5
    replace hX := hX.up hU5
    replace hB := hB.up hU5
    replace hG := hG.up hU5
    replace hO4 := hO4.up hU5
    replace yhG := hG.two
    replace lhG := hG.lt
    replace yhG := hG.two
    replace lhG := hG.lt
    have hw5 := Up.then_ hw4 hU5
    go_wp2_with fail
    refine (HH _ hX).mono ?_
    rintro e w6 ⟨A6, c6, rfl, hO6, hb6⟩
    have hU6 : Up w5 w6 := Up.then_ (by go_grown) hb6
    replace hX := hX.up hU6
    replace hB := hB.up hU6
    replace hG := hG.up hU6
    replace hO4 := hO4.up hU6
    replace hO5 := hO5.up hU6
    replace yhG := hG.two
    replace lhG := hG.lt
    have hw6 := Up.then_ hw5 hU6
    clear hO6 HI HS HH hU4 hU5 hU6 hb4 hb5 hb6 hw3 hw4 hw5
    go_wp2_with fail
    refine (sameInts_up hO4.ri hO5.ri (by omega)).mono ?_
    rintro e w7 ⟨rfl, hb7⟩
    have hU7 : Up w6 w7 := Up.then_ (by go_grown) hb7
    replace hX := hX.up hU7
    replace hB := hB.up hU7
    replace hG := hG.up hU7
    replace hO4 := hO4.up hU7
    replace hO5 := hO5.up hU7
    replace yhG := hG.two
    replace lhG := hG.lt
    have hw7 := Up.then_ hw6 hU7
    go_wp2_with fail
    refine (HC _ hX).mono ?_
    rintro e w8 ⟨rfl, hb8⟩
    have hU8 : Up w7 w8 := Up.then_ (by go_grown) hb8
    replace hX := hX.up hU8
    replace hB := hB.up hU8
    replace hG := hG.up hU8
    replace hO4 := hO4.up hU8
    replace hO5 := hO5.up hU8
    replace yhG := hG.two
    replace lhG := hG.lt
    have hw8 := Up.then_ hw7 hU8
    go_wp2_with fail
    refine (HG _ hX).mono ?_
    rintro e w9 ⟨rfl, hb9⟩
    have hU9 : Up w8 w9 := Up.then_ (by go_grown) hb9
    replace hX := hX.up hU9
    replace hB := hB.up hU9
    replace hG := hG.up hU9
    replace hO4 := hO4.up hU9
    replace hO5 := hO5.up hU9
    replace yhG := hG.two
    replace lhG := hG.lt
    have hw9 := Up.then_ hw8 hU9
    clear HC HG hU7 hU8 hU9 hb7 hb8 hb9 hw6 hw7 hw8 hO4
    cases b
    · have hiff := HIFF.out
      clear HIFF HFA
      cases ig
      · clear hiff
        clear hO5
        clear hX hG yhG lhG
        have hlowT : ∀ ad, B = some ad → ad.block < w9.heap.size := fun ad e => by have := hlow ad e; have := hw9.size; omega
        go_wp2_with fail
        refine (drawFillOf_any B n c bs _ hB hs hlowT).mono ?_
        rintro e w20 ⟨N2, P2, m2, d2, X2, L2, e2, xs, rfl, hX2, hle2, hL2, hl2, hb20⟩
        have hU20 : Up w9 w20 := Up.then_ (by go_grown) hb20
        replace hB := hB.up hU20
        have hw20 := Up.then_ hw9 hU20
        have hm2 : m2 ≤ 6 := by rw [← hX2.len]; exact hle2
        have hG2 := Blk.new w20 26 #[.int .i64 N2, .slice P2 m2 d2]
        have hU21 : Up w20 (w20.alloc (.cells #[.int .i64 N2, .slice P2 m2 d2] 26)) := by go_grown
        have hw21 := Up.then_ hw20 hU21
        have hcap2 := hL2.cap
        have hP2 := hX2.ri.up hU21
        have hQ2 := hL2.ri.up hU21
        replace hB := hB.up hU21
        obtain ⟨g2, hg2⟩ : ∃ g2, g2 = w20.heap.size := ⟨_, rfl⟩
        rw [← hg2] at hG2
        go_wp2_with fail
        rw [← hg2]
        generalize w20.alloc (.cells #[.int .i64 N2, .slice P2 m2 d2] 26) = w21 at hG2 hP2 hQ2 hB hw21 ⊢
        clear hg2 hU20 hU21 hb20 hX2 hL2 hw20 hle2
        have yhG2 := hG2.two
        have lhG2 := hG2.lt
        obtain ⟨fl, hfl⟩ : ∃ fl, fl = fillOf N2 X2 xs := ⟨_, rfl⟩
        obtain ⟨io, hio⟩ : ∃ io, io = isOrder N2 X2 xs := ⟨_, rfl⟩
        have hfll : fl.length ≤ 49 := by rw [hfl]; exact fillOf_small N2 X2 xs
        have HFI : ∀ w', RI w' P2 m2 X2 → RI w' L2 xs.length xs → Calls Try.prog 31 #[.agg #[.int .i64 N2, .slice P2 m2 d2], .slice L2 xs.length e2] w' (GivesRB (fl.map row2) io w') := fun w' h h2 => by rw [hfl, hio]; exact implFillOf_any N2 P2 L2 m2 d2 xs.length e2 X2 xs w' h h2 (by omega) (by omega) hcap2.1
        have HFS : ∀ w', RI w' P2 m2 X2 → RI w' L2 xs.length xs → Calls Try.prog 36 #[.agg #[.int .i64 N2, .slice P2 m2 d2], .slice L2 xs.length e2] w' (GivesRB (fl.map row2) io w') := fun w' h h2 => by rw [hfl, hio]; exact specFillOf_any N2 P2 L2 m2 d2 xs.length e2 X2 xs w' h h2 (by omega) (by omega)
        have HEF := Lib.hid (show io = true → isElim N2 X2 xs = decide (fl.length = 0) from fun e => by rw [hfl]; exact (fillOf_none (by rw [← hio]; exact e)).symm)
        have HFL := Lib.hid (show ∀ ps : List RowP, ps.map Prod.snd = fl.map row2 → ps.length = fl.length from fun ps h => by have := congrArg List.length h; simpa using this)
        clear hfl hio
        go_wp2_with fail
        refine (HFI _ hP2 hQ2).mono ?_
        rintro e w22 ⟨A22, c22, ps, hps, rfl, hO22, hb22⟩
        have hU22 : Up w21 w22 := Up.then_ (by go_grown) hb22
        replace hB := hB.up hU22
        replace hG2 := hG2.up hU22
        replace hP2 := hP2.up hU22
        replace hQ2 := hQ2.up hU22
        replace yhG2 := hG2.two
        replace lhG2 := hG2.lt
        have HPS := Lib.hid hps
        have hpl := HFL.out ps hps
        rw [hpl] at hO22 ⊢
        clear hps hpl
        replace yhG2 := hG2.two
        replace lhG2 := hG2.lt
        have hw22 := Up.then_ hw21 hU22
        go_wp2_with fail
        refine (HFS _ hP2 hQ2).mono ?_
        rintro e w23 ⟨A23, c23, qs, hqs, rfl, hO23, hb23⟩
        have hU23 : Up w22 w23 := Up.then_ (by go_grown) hb23
        replace hB := hB.up hU23
        replace hG2 := hG2.up hU23
        replace hP2 := hP2.up hU23
        replace hQ2 := hQ2.up hU23
        replace hO22 := hO22.up hU23
        replace yhG2 := hG2.two
        replace lhG2 := hG2.lt
        have HQS := Lib.hid hqs
        have hql := HFL.out qs hqs
        rw [hql] at hO23 ⊢
        clear hqs hql
        replace yhG2 := hG2.two
        replace lhG2 := hG2.lt
        have hw23 := Up.then_ hw22 hU23
        clear HFI HFS HFL hU22 hU23 hb22 hb23 hw21 hw22
        have HSL := Lib.hid (show ps.map Prod.snd = qs.map Prod.snd by rw [HPS.out, HQS.out])
        have HRW := Lib.hid (row2_rows HPS.out)
        go_wp2_with fail
        refine (sameLists_up hO22 hO23 HSL.out HRW.out (by omega)).mono ?_
        rintro e w24 ⟨rfl, hb24⟩
        have hU24 : Up w23 w24 := Up.then_ (by go_grown) hb24
        replace hB := hB.up hU24
        replace hG2 := hG2.up hU24
        replace hP2 := hP2.up hU24
        replace hQ2 := hQ2.up hU24
        replace hO22 := hO22.up hU24
        replace hO23 := hO23.up hU24
        replace yhG2 := hG2.two
        replace lhG2 := hG2.lt
        have hw24 := Up.then_ hw23 hU24
        clear HSL HRW HPS HQS hO22 hO23 hb24 hU24 hw23
        cases io
        · clear HEF
          clear hP2 hQ2 hG2 yhG2 lhG2
          have hlow30 : ∀ ad, B = some ad → ad.block < w24.heap.size := fun ad e => by have := hlow ad e; have := hw24.size; omega
          go_wp2_with fail
          refine (drawIsElimination_any B n c bs _ hB hs hlow30).mono ?_
          rintro e w30 ⟨N3, P3, m3, d3, X3, L3, e3, ys, rfl, hX3, hle3, hL3, hl3, hb30⟩
          have hU30 : Up w24 w30 := Up.then_ (by go_grown) hb30
          replace hB := hB.up hU30
          have hw30 := Up.then_ hw24 hU30
          have hm3 : m3 ≤ 6 := by rw [← hX3.len]; exact hle3
          have hcap3 := hL3.cap
          have hG3 := Blk.new w30 26 #[.int .i64 N3, .slice P3 m3 d3]
          have hU31 : Up w30 (w30.alloc (.cells #[.int .i64 N3, .slice P3 m3 d3] 26)) := by go_grown
          have hw31 := Up.then_ hw30 hU31
          have hP3 := hX3.ri.up hU31
          have hQ3 := hL3.ri.up hU31
          replace hB := hB.up hU31
          obtain ⟨g3, hg3⟩ : ∃ g3, g3 = w30.heap.size := ⟨_, rfl⟩
          rw [← hg3] at hG3
          go_wp2_with fail
          rw [← hg3]
          generalize w30.alloc (.cells #[.int .i64 N3, .slice P3 m3 d3] 26) = w31 at hG3 hP3 hQ3 hB hw31 ⊢
          have hlow31 : ∀ ad, B = some ad → ad.block < w31.heap.size := fun ad e => by have := hlow ad e; have := hw31.size; omega
          clear hg3 hU30 hU31 hb30 hX3 hL3 hw30 hle3
          refine (drawLaterNeighbours_any B n c bs _ hB hs hlow31).mono ?_
          rintro e w32 ⟨N4, P4, m4, d4, X4, L4, e4, zs, v4, rfl, hX4, hle4, hL4, hl4, hv41, hv42, hb32⟩
          have hU32 : Up w31 w32 := hb32
          replace hB := hB.up hU32
          replace hG3 := hG3.up hU32
          replace hP3 := hP3.up hU32
          replace hQ3 := hQ3.up hU32
          have hw32 := Up.then_ hw31 hU32
          have hm4 : m4 ≤ 6 := by rw [← hX4.len]; exact hle4
          have hcap4 := hL4.cap
          have hG4 := Blk.new w32 26 #[.int .i64 N4, .slice P4 m4 d4]
          have hU33 : Up w32 (w32.alloc (.cells #[.int .i64 N4, .slice P4 m4 d4] 26)) := by go_grown
          have hw33 := Up.then_ hw32 hU33
          have hP4 := hX4.ri.up hU33
          have hQ4 := hL4.ri.up hU33
          replace hB := hB.up hU33
          replace hG3 := hG3.up hU33
          replace hP3 := hP3.up hU33
          replace hQ3 := hQ3.up hU33
          obtain ⟨g4, hg4⟩ : ∃ g4, g4 = w32.heap.size := ⟨_, rfl⟩
          rw [← hg4] at hG4
          go_wp2_with fail
          rw [← hg4]
          generalize w32.alloc (.cells #[.int .i64 N4, .slice P4 m4 d4] 26) = w33 at hG4 hP4 hQ4 hB hG3 hP3 hQ3 hw33 ⊢
          have hlow33 : ∀ ad, B = some ad → ad.block < w33.heap.size := fun ad e => by have := hlow ad e; have := hw33.size; omega
          clear hg4 hU32 hU33 hb32 hX4 hL4 hw32 hle4 hw31
          refine (drawSimplicialOf_any B n c bs _ hB hs hlow33).mono ?_
          rintro e w34 ⟨N5, P5, m5, d5, X5, rfl, hX5, hle5, hb34⟩
          have hU34 : Up w33 w34 := hb34
          replace hB := hB.up hU34
          replace hG3 := hG3.up hU34
          replace hP3 := hP3.up hU34
          replace hQ3 := hQ3.up hU34
          replace hG4 := hG4.up hU34
          replace hP4 := hP4.up hU34
          replace hQ4 := hQ4.up hU34
          have hw34 := Up.then_ hw33 hU34
          have hm5 : m5 ≤ 6 := by rw [← hX5.len]; exact hle5
          have hG5 := Blk.new w34 26 #[.int .i64 N5, .slice P5 m5 d5]
          have hU35 : Up w34 (w34.alloc (.cells #[.int .i64 N5, .slice P5 m5 d5] 26)) := by go_grown
          have hw35 := Up.then_ hw34 hU35
          have hP5 := hX5.ri.up hU35
          replace hB := hB.up hU35
          replace hG3 := hG3.up hU35
          replace hP3 := hP3.up hU35
          replace hQ3 := hQ3.up hU35
          replace hG4 := hG4.up hU35
          replace hP4 := hP4.up hU35
          replace hQ4 := hQ4.up hU35
          obtain ⟨g5, hg5⟩ : ∃ g5, g5 = w34.heap.size := ⟨_, rfl⟩
          rw [← hg5] at hG5
          go_wp2_with fail
          rw [← hg5]
          generalize w34.alloc (.cells #[.int .i64 N5, .slice P5 m5 d5] 26) = w35 at hG5 hP5 hB hG3 hP3 hQ3 hG4 hP4 hQ4 hw35 ⊢
          have hlow35 : ∀ ad, B = some ad → ad.block < w35.heap.size := fun ad e => by have := hlow ad e; have := hw35.size; omega
          clear hg5 hU34 hU35 hb34 hX5 hw34 hle5 hw33
          refine (drawIsLexElimination_any B n c bs _ hB hs hlow35).mono ?_
          rintro e w36 ⟨N6, P6, m6, d6, X6, s6, rfl, hX6, hle6, hs61, hs62, hb36⟩
          have hU36 : Up w35 w36 := hb36
          replace hB := hB.up hU36
          replace hG3 := hG3.up hU36
          replace hP3 := hP3.up hU36
          replace hQ3 := hQ3.up hU36
          replace hG4 := hG4.up hU36
          replace hP4 := hP4.up hU36
          replace hQ4 := hQ4.up hU36
          replace hG5 := hG5.up hU36
          replace hP5 := hP5.up hU36
          have hw36 := Up.then_ hw35 hU36
          have hm6' : m6 ≤ 6 := by rw [← hX6.len]; exact hle6
          have hG6 := Blk.new w36 26 #[.int .i64 N6, .slice P6 m6 d6]
          have hU37 : Up w36 (w36.alloc (.cells #[.int .i64 N6, .slice P6 m6 d6] 26)) := by go_grown
          have hw37 := Up.then_ hw36 hU37
          have hP6 := hX6.ri.up hU37
          replace hG3 := hG3.up hU37
          replace hP3 := hP3.up hU37
          replace hQ3 := hQ3.up hU37
          replace hG4 := hG4.up hU37
          replace hP4 := hP4.up hU37
          replace hQ4 := hQ4.up hU37
          replace hG5 := hG5.up hU37
          replace hP5 := hP5.up hU37
          obtain ⟨g6, hg6⟩ : ∃ g6, g6 = w36.heap.size := ⟨_, rfl⟩
          rw [← hg6] at hG6
          go_wp2_with fail
          rw [← hg6]
          generalize w36.alloc (.cells #[.int .i64 N6, .slice P6 m6 d6] 26) = w37 at hG6 hP6 hG3 hP3 hQ3 hG4 hP4 hQ4 hG5 hP5 hw37 ⊢
          clear hg6 hU36 hU37 hb36 hX6 hw36 hle6 hw35 hlow31 hlow33 hlow35 hB
          have yhG3 := hG3.two
          have lhG3 := hG3.lt
          have yhG4 := hG4.two
          have lhG4 := hG4.lt
          have yhG5 := hG5.two
          have lhG5 := hG5.lt
          have yhG6 := hG6.two
          have lhG6 := hG6.lt
          obtain ⟨s5, hs5⟩ : ∃ s5, s5 = simpL N5 X5 := ⟨_, rfl⟩
          have hs5l : s5.length ≤ 7 := by rw [hs5]; exact simpL_small N5 X5
          have HSI : ∀ w', RI w' P5 m5 X5 → Calls Try.prog 34 #[.agg #[.int .i64 N5, .slice P5 m5 d5]] w' (GivesI s5 w') := fun w' h => by rw [hs5]; exact implSimplicialOf_any N5 P5 m5 d5 X5 w' h (by omega)
          have HSS : ∀ w', RI w' P5 m5 X5 → Calls Try.prog 45 #[.agg #[.int .i64 N5, .slice P5 m5 d5]] w' (GivesI s5 w') := fun w' h => by rw [hs5]; exact specSimplicialOf_any N5 P5 m5 d5 X5 w' h (by omega)
          clear hs5
          have hV0 : Up w37 w37.drew := (Up.refl _).drew
          refine wp_region_held_drew (S := (fun w' => Up w37 w' ∧ (∀ b o, b < w37.heap.size → w'.cell? ⟨b, o, none⟩ = w37.cell? ⟨b, o, none⟩))) (by kernel_rfl) (by exact ⟨hV0, fun _ _ hb => hV0.cell hb⟩) (fun hHeld => ?_)
          refine wpAnyH_take (i := 0) (v := ?_) rfl (by kernel_rfl) (by kernel_rfl) (by kernel_rfl) (fun _ _ _ h => h) (Or.inl ⟨by rfl, ?_⟩) (by assumption) ?_
          rotate_left
          · (intro w' hSw; go_simp; try with_reducible rfl)
          (try simp only [List.getElem_toArray]); (try simp only [List.getElem_cons_succ]); (try simp only [List.getElem_cons_zero]); (try simp only [Act.put]); (try simp only [List.setIfInBounds_toArray]); (try simp only [List.set_cons_succ]); (try simp only [List.set_cons_zero])
          refine wpAnyH_take (i := 1) (v := ?_) rfl (by kernel_rfl) (by kernel_rfl) (by kernel_rfl) (fun _ _ _ h => h) (Or.inl ⟨by rfl, ?_⟩) (by assumption) ?_
          rotate_left
          · (intro w' hSw; go_simp; try with_reducible rfl)
          (try simp only [List.getElem_toArray]); (try simp only [List.getElem_cons_succ]); (try simp only [List.getElem_cons_zero]); (try simp only [Act.put]); (try simp only [List.setIfInBounds_toArray]); (try simp only [List.set_cons_succ]); (try simp only [List.set_cons_zero])
          refine wpAnyH_take (i := 3) (v := ?_) rfl (by kernel_rfl) (by kernel_rfl) (by kernel_rfl) (fun _ _ _ h => h) (Or.inl ⟨by rfl, ?_⟩) (by assumption) ?_
          rotate_left
          · (intro w' hSw; go_simp; try with_reducible rfl)
          (try simp only [List.getElem_toArray]); (try simp only [List.getElem_cons_succ]); (try simp only [List.getElem_cons_zero]); (try simp only [Act.put]); (try simp only [List.setIfInBounds_toArray]); (try simp only [List.set_cons_succ]); (try simp only [List.set_cons_zero])
          refine wpAnyH_take (i := 4) (v := ?_) rfl (by kernel_rfl) (by kernel_rfl) (by kernel_rfl) (fun _ _ _ h => h) (Or.inl ⟨by rfl, ?_⟩) (by assumption) ?_
          rotate_left
          · (intro w' hSw; go_simp; try with_reducible rfl)
          (try simp only [List.getElem_toArray]); (try simp only [List.getElem_cons_succ]); (try simp only [List.getElem_cons_zero]); (try simp only [Act.put]); (try simp only [List.setIfInBounds_toArray]); (try simp only [List.set_cons_succ]); (try simp only [List.set_cons_zero])
          refine wpAnyH_ready (rs := [2]) (by kernel_rfl) (by simp) ?_
          refine AllReadyH.cons rfl (fun K hK => ?_) AllReadyH.nil
          go_simp
          go_at_call 30
          refine (implIsElimination_any N3 P3 L3 m3 d3 ys.length e3 X3 ys _ (hP3.up hV0) (hQ3.up hV0) (by omega) (by omega) hcap3.1).mono ?_
          rintro e w400 ⟨rfl, hb400⟩
          have hV1 := Up.then_ hV0 hb400
          go_wp2_with fail
          refine hK.out _ _ (by exact ⟨hV1, fun _ _ hb => hV1.cell hb⟩) (fun hHeld1 => ?_)
          clear hK K
          (try simp only [List.getElem_toArray]); (try simp only [List.getElem_cons_succ]); (try simp only [List.getElem_cons_zero]); (try simp only [Act.put]); (try simp only [List.setIfInBounds_toArray]); (try simp only [List.set_cons_succ]); (try simp only [List.set_cons_zero])
          refine wpAnyH_ready (rs := [5]) (by kernel_rfl) (by simp) ?_
          refine AllReadyH.cons rfl (fun K hK => ?_) AllReadyH.nil
          go_simp
          go_at_call 42
          refine (specIsElimination_any N3 P3 L3 m3 d3 ys.length e3 X3 ys _ (hP3.up hV1) (hQ3.up hV1) (by omega) (by omega)).mono ?_
          rintro e w401 ⟨rfl, hb401⟩
          have hV2 := Up.then_ hV1 hb401
          go_wp2_with fail
          refine hK.out _ _ (by exact ⟨hV2, fun _ _ hb => hV2.cell hb⟩) (fun hHeld2 => ?_)
          clear hK K
          (try simp only [List.getElem_toArray]); (try simp only [List.getElem_cons_succ]); (try simp only [List.getElem_cons_zero]); (try simp only [Act.put]); (try simp only [List.setIfInBounds_toArray]); (try simp only [List.set_cons_succ]); (try simp only [List.set_cons_zero])
          refine wpAnyH_take (i := 6) (v := ?_) rfl (by kernel_rfl) (by kernel_rfl) (by kernel_rfl) (fun _ _ _ h => h) (Or.inl ⟨by rfl, ?_⟩) (by assumption) ?_
          rotate_left
          · (intro w' hSw; go_simp; try with_reducible rfl)
          (try simp only [List.getElem_toArray]); (try simp only [List.getElem_cons_succ]); (try simp only [List.getElem_cons_zero]); (try simp only [Act.put]); (try simp only [List.setIfInBounds_toArray]); (try simp only [List.set_cons_succ]); (try simp only [List.set_cons_zero])
          refine wpAnyH_take (i := 7) (v := ?_) rfl (by kernel_rfl) (by kernel_rfl) (by kernel_rfl) (fun _ _ _ h => h) (Or.inl ⟨by rfl, ?_⟩) (by assumption) ?_
          rotate_left
          · (intro w' hSw; go_simp; try with_reducible rfl)
          (try simp only [List.getElem_toArray]); (try simp only [List.getElem_cons_succ]); (try simp only [List.getElem_cons_zero]); (try simp only [Act.put]); (try simp only [List.setIfInBounds_toArray]); (try simp only [List.set_cons_succ]); (try simp only [List.set_cons_zero])
          refine wpAnyH_take (i := 8) (v := ?_) rfl (by kernel_rfl) (by kernel_rfl) (by kernel_rfl) (fun _ _ _ h => h) (Or.inl ⟨by rfl, ?_⟩) (by assumption) ?_
          rotate_left
          · (intro w' hSw; go_simp; try with_reducible rfl)
          (try simp only [List.getElem_toArray]); (try simp only [List.getElem_cons_succ]); (try simp only [List.getElem_cons_zero]); (try simp only [Act.put]); (try simp only [List.setIfInBounds_toArray]); (try simp only [List.set_cons_succ]); (try simp only [List.set_cons_zero])
          refine wpAnyH_take (i := 9) (v := ?_) rfl (by kernel_rfl) (by kernel_rfl) (by kernel_rfl) (fun _ _ _ h => h) (Or.inl ⟨by rfl, ?_⟩) (by assumption) ?_
          rotate_left
          · (intro w' hSw; go_simp; try with_reducible rfl)
          (try simp only [List.getElem_toArray]); (try simp only [List.getElem_cons_succ]); (try simp only [List.getElem_cons_zero]); (try simp only [Act.put]); (try simp only [List.setIfInBounds_toArray]); (try simp only [List.set_cons_succ]); (try simp only [List.set_cons_zero])
          refine wpAnyH_take (i := 10) (v := ?_) rfl (by kernel_rfl) (by kernel_rfl) (by kernel_rfl) (fun _ _ _ h => h) (Or.inl ⟨by rfl, ?_⟩) (by assumption) ?_
          rotate_left
          · (intro w' hSw; go_simp; try with_reducible rfl)
          (try simp only [List.getElem_toArray]); (try simp only [List.getElem_cons_succ]); (try simp only [List.getElem_cons_zero]); (try simp only [Act.put]); (try simp only [List.setIfInBounds_toArray]); (try simp only [List.set_cons_succ]); (try simp only [List.set_cons_zero])
          refine wpAnyH_take (i := 12) (v := ?_) rfl (by kernel_rfl) (by kernel_rfl) (by kernel_rfl) (fun _ _ _ h => h) (Or.inl ⟨by rfl, ?_⟩) (by assumption) ?_
          rotate_left
          · (intro w' hSw; go_simp; try with_reducible rfl)
          (try simp only [List.getElem_toArray]); (try simp only [List.getElem_cons_succ]); (try simp only [List.getElem_cons_zero]); (try simp only [Act.put]); (try simp only [List.setIfInBounds_toArray]); (try simp only [List.set_cons_succ]); (try simp only [List.set_cons_zero])
          refine wpAnyH_take (i := 13) (v := ?_) rfl (by kernel_rfl) (by kernel_rfl) (by kernel_rfl) (fun _ _ _ h => h) (Or.inl ⟨by rfl, ?_⟩) (by assumption) ?_
          rotate_left
          · (intro w' hSw; go_simp; try with_reducible rfl)
          (try simp only [List.getElem_toArray]); (try simp only [List.getElem_cons_succ]); (try simp only [List.getElem_cons_zero]); (try simp only [Act.put]); (try simp only [List.setIfInBounds_toArray]); (try simp only [List.set_cons_succ]); (try simp only [List.set_cons_zero])
          refine wpAnyH_take (i := 14) (v := ?_) rfl (by kernel_rfl) (by kernel_rfl) (by kernel_rfl) (fun _ _ _ h => h) (Or.inl ⟨by rfl, ?_⟩) (by assumption) ?_
          rotate_left
          · (intro w' hSw; go_simp; try with_reducible rfl)
          (try simp only [List.getElem_toArray]); (try simp only [List.getElem_cons_succ]); (try simp only [List.getElem_cons_zero]); (try simp only [Act.put]); (try simp only [List.setIfInBounds_toArray]); (try simp only [List.set_cons_succ]); (try simp only [List.set_cons_zero])
          refine wpAnyH_ready (rs := [11]) (by kernel_rfl) (by simp) ?_
          refine AllReadyH.cons rfl (fun K hK => ?_) AllReadyH.nil
          go_simp
          go_at_call 43
          refine (implLater_any N4 v4 P4 L4 m4 d4 zs.length e4 X4 zs _ (hP4.up hV2) (hQ4.up hV2) (by omega) (by omega) hcap4.1).mono ?_
          rintro e w402 ⟨rfl, hb402⟩
          have hV3 := Up.then_ hV2 hb402
          go_wp2_with fail
          refine hK.out _ _ (by exact ⟨hV3, fun _ _ hb => hV3.cell hb⟩) (fun hHeld3 => ?_)
          clear hK K
          (try simp only [List.getElem_toArray]); (try simp only [List.getElem_cons_succ]); (try simp only [List.getElem_cons_zero]); (try simp only [Act.put]); (try simp only [List.setIfInBounds_toArray]); (try simp only [List.set_cons_succ]); (try simp only [List.set_cons_zero])
          refine wpAnyH_ready (rs := [15]) (by kernel_rfl) (by simp) ?_
          refine AllReadyH.cons rfl (fun K hK => ?_) AllReadyH.nil
          go_simp
          go_at_call 44
          refine (specLater_any N4 v4 P4 L4 m4 d4 zs.length e4 X4 zs _ (hP4.up hV3) (hQ4.up hV3) (by omega) (by omega)).mono ?_
          rintro e w403 ⟨rfl, hb403⟩
          have hV4 := Up.then_ hV3 hb403
          go_wp2_with fail
          refine hK.out _ _ (by exact ⟨hV4, fun _ _ hb => hV4.cell hb⟩) (fun hHeld4 => ?_)
          clear hK K
          (try simp only [List.getElem_toArray]); (try simp only [List.getElem_cons_succ]); (try simp only [List.getElem_cons_zero]); (try simp only [Act.put]); (try simp only [List.setIfInBounds_toArray]); (try simp only [List.set_cons_succ]); (try simp only [List.set_cons_zero])
          refine wpAnyH_take (i := 16) (v := ?_) rfl (by kernel_rfl) (by kernel_rfl) (by kernel_rfl) (fun _ _ _ h => h) (Or.inl ⟨by rfl, ?_⟩) (by assumption) ?_
          rotate_left
          · (intro w' hSw; go_simp; try with_reducible rfl)
          (try simp only [List.getElem_toArray]); (try simp only [List.getElem_cons_succ]); (try simp only [List.getElem_cons_zero]); (try simp only [Act.put]); (try simp only [List.setIfInBounds_toArray]); (try simp only [List.set_cons_succ]); (try simp only [List.set_cons_zero])
          refine wpAnyH_take (i := 17) (v := ?_) rfl (by kernel_rfl) (by kernel_rfl) (by kernel_rfl) (fun _ _ _ h => h) (Or.inl ⟨by rfl, ?_⟩) (by assumption) ?_
          rotate_left
          · (intro w' hSw; go_simp; try with_reducible rfl)
          (try simp only [List.getElem_toArray]); (try simp only [List.getElem_cons_succ]); (try simp only [List.getElem_cons_zero]); (try simp only [Act.put]); (try simp only [List.setIfInBounds_toArray]); (try simp only [List.set_cons_succ]); (try simp only [List.set_cons_zero])
          refine wpAnyH_take (i := 18) (v := ?_) rfl (by kernel_rfl) (by kernel_rfl) (by kernel_rfl) (fun _ _ _ h => h) (Or.inl ⟨by rfl, ?_⟩) (by assumption) ?_
          rotate_left
          · (intro w' hSw; go_simp; try with_reducible rfl)
          (try simp only [List.getElem_toArray]); (try simp only [List.getElem_cons_succ]); (try simp only [List.getElem_cons_zero]); (try simp only [Act.put]); (try simp only [List.setIfInBounds_toArray]); (try simp only [List.set_cons_succ]); (try simp only [List.set_cons_zero])
          refine wpAnyH_take (i := 19) (v := ?_) rfl (by kernel_rfl) (by kernel_rfl) (by kernel_rfl) (fun _ _ _ h => h) (Or.inl ⟨by rfl, ?_⟩) (by assumption) ?_
          rotate_left
          · (intro w' hSw; go_simp; try with_reducible rfl)
          (try simp only [List.getElem_toArray]); (try simp only [List.getElem_cons_succ]); (try simp only [List.getElem_cons_zero]); (try simp only [Act.put]); (try simp only [List.setIfInBounds_toArray]); (try simp only [List.set_cons_succ]); (try simp only [List.set_cons_zero])
          refine wpAnyH_take (i := 21) (v := ?_) rfl (by kernel_rfl) (by kernel_rfl) (by kernel_rfl) (fun _ _ _ h => h) (Or.inl ⟨by rfl, ?_⟩) (by assumption) ?_
          rotate_left
          · (intro w' hSw; go_simp; try with_reducible rfl)
          (try simp only [List.getElem_toArray]); (try simp only [List.getElem_cons_succ]); (try simp only [List.getElem_cons_zero]); (try simp only [Act.put]); (try simp only [List.setIfInBounds_toArray]); (try simp only [List.set_cons_succ]); (try simp only [List.set_cons_zero])
          refine wpAnyH_ready (rs := [20]) (by kernel_rfl) (by simp) ?_
          refine AllReadyH.cons rfl (fun K hK => ?_) AllReadyH.nil
          go_simp
          go_at_call 34
          refine (HSI _ (hP5.up hV4)).mono ?_
          rintro e w404 ⟨A44, c44, rfl, hO44, hb404⟩
          have hV5 := Up.then_ hV4 hb404
          go_wp2_with fail
          refine hK.out _ _ (by exact ⟨hV5, fun _ _ hb => hV5.cell hb⟩) (fun hHeld5 => ?_)
          clear hK K
          (try simp only [List.getElem_toArray]); (try simp only [List.getElem_cons_succ]); (try simp only [List.getElem_cons_zero]); (try simp only [Act.put]); (try simp only [List.setIfInBounds_toArray]); (try simp only [List.set_cons_succ]); (try simp only [List.set_cons_zero])
          refine wpAnyH_ready (rs := [22]) (by kernel_rfl) (by simp) ?_
          refine AllReadyH.cons rfl (fun K hK => ?_) AllReadyH.nil
          go_simp
          go_at_call 45
          refine (HSS _ (hP5.up hV5)).mono ?_
          rintro e w405 ⟨A45, c45, rfl, hO45, hb405⟩
          have hV6 := Up.then_ hV5 hb405
          go_wp2_with fail
          refine hK.out _ _ (by exact ⟨hV6, fun _ _ hb => hV6.cell hb⟩) (fun hHeld6 => ?_)
          clear hK K
          (try simp only [List.getElem_toArray]); (try simp only [List.getElem_cons_succ]); (try simp only [List.getElem_cons_zero]); (try simp only [Act.put]); (try simp only [List.setIfInBounds_toArray]); (try simp only [List.set_cons_succ]); (try simp only [List.set_cons_zero])
          refine wpAnyH_ready (rs := [23]) (by kernel_rfl) (by simp) ?_
          refine AllReadyH.cons rfl (fun K hK => ?_) AllReadyH.nil
          go_simp
          go_at_call 9
          refine (sameInts_up (hO44.ri.up hb405) hO45.ri (by omega)).mono ?_
          rintro e w406 ⟨rfl, hb406⟩
          have hV7 := Up.then_ hV6 hb406
          go_wp2_with fail
          refine hK.out _ _ (by exact ⟨hV7, fun _ _ hb => hV7.cell hb⟩) (fun hHeld7 => ?_)
          clear hK K
          (try simp only [List.getElem_toArray]); (try simp only [List.getElem_cons_succ]); (try simp only [List.getElem_cons_zero]); (try simp only [Act.put]); (try simp only [List.setIfInBounds_toArray]); (try simp only [List.set_cons_succ]); (try simp only [List.set_cons_zero])
          refine wpAnyH_take (i := 24) (v := ?_) rfl (by kernel_rfl) (by kernel_rfl) (by kernel_rfl) (fun _ _ _ h => h) (Or.inl ⟨by rfl, ?_⟩) (by assumption) ?_
          rotate_left
          · (intro w' hSw; go_simp; try with_reducible rfl)
          (try simp only [List.getElem_toArray]); (try simp only [List.getElem_cons_succ]); (try simp only [List.getElem_cons_zero]); (try simp only [Act.put]); (try simp only [List.setIfInBounds_toArray]); (try simp only [List.set_cons_succ]); (try simp only [List.set_cons_zero])
          refine wpAnyH_take (i := 25) (v := ?_) rfl (by kernel_rfl) (by kernel_rfl) (by kernel_rfl) (fun _ _ _ h => h) (Or.inl ⟨by rfl, ?_⟩) (by assumption) ?_
          rotate_left
          · (intro w' hSw; go_simp; try with_reducible rfl)
          (try simp only [List.getElem_toArray]); (try simp only [List.getElem_cons_succ]); (try simp only [List.getElem_cons_zero]); (try simp only [Act.put]); (try simp only [List.setIfInBounds_toArray]); (try simp only [List.set_cons_succ]); (try simp only [List.set_cons_zero])
          refine wpAnyH_take (i := 26) (v := ?_) rfl (by kernel_rfl) (by kernel_rfl) (by kernel_rfl) (fun _ _ _ h => h) (Or.inl ⟨by rfl, ?_⟩) (by assumption) ?_
          rotate_left
          · (intro w' hSw; go_simp; try with_reducible rfl)
          (try simp only [List.getElem_toArray]); (try simp only [List.getElem_cons_succ]); (try simp only [List.getElem_cons_zero]); (try simp only [Act.put]); (try simp only [List.setIfInBounds_toArray]); (try simp only [List.set_cons_succ]); (try simp only [List.set_cons_zero])
          refine wpAnyH_take (i := 27) (v := ?_) rfl (by kernel_rfl) (by kernel_rfl) (by kernel_rfl) (fun _ _ _ h => h) (Or.inl ⟨by rfl, ?_⟩) (by assumption) ?_
          rotate_left
          · (intro w' hSw; go_simp; try with_reducible rfl)
          (try simp only [List.getElem_toArray]); (try simp only [List.getElem_cons_succ]); (try simp only [List.getElem_cons_zero]); (try simp only [Act.put]); (try simp only [List.setIfInBounds_toArray]); (try simp only [List.set_cons_succ]); (try simp only [List.set_cons_zero])
          refine wpAnyH_take (i := 29) (v := ?_) rfl (by kernel_rfl) (by kernel_rfl) (by kernel_rfl) (fun _ _ _ h => h) (Or.inl ⟨by rfl, ?_⟩) (by assumption) ?_
          rotate_left
          · (intro w' hSw; go_simp; try with_reducible rfl)
          (try simp only [List.getElem_toArray]); (try simp only [List.getElem_cons_succ]); (try simp only [List.getElem_cons_zero]); (try simp only [Act.put]); (try simp only [List.setIfInBounds_toArray]); (try simp only [List.set_cons_succ]); (try simp only [List.set_cons_zero])
          refine wpAnyH_take (i := 30) (v := ?_) rfl (by kernel_rfl) (by kernel_rfl) (by kernel_rfl) (fun _ _ _ h => h) (Or.inl ⟨by rfl, ?_⟩) (by assumption) ?_
          rotate_left
          · (intro w' hSw; go_simp; try with_reducible rfl)
          (try simp only [List.getElem_toArray]); (try simp only [List.getElem_cons_succ]); (try simp only [List.getElem_cons_zero]); (try simp only [Act.put]); (try simp only [List.setIfInBounds_toArray]); (try simp only [List.set_cons_succ]); (try simp only [List.set_cons_zero])
          refine wpAnyH_ready (rs := [28]) (by kernel_rfl) (by simp) ?_
          refine AllReadyH.cons rfl (fun K hK => ?_) AllReadyH.nil
          go_simp
          go_at_call 32
          refine (implIsLexElimination_any N6 s6 P6 m6 d6 X6 _ (hP6.up hV7) (by omega)).mono ?_
          rintro e w407 ⟨rfl, hb407⟩
          have hV8 := Up.then_ hV7 hb407
          go_wp2_with fail
          refine hK.out _ _ (by exact ⟨hV8, fun _ _ hb => hV8.cell hb⟩) (fun hHeld8 => ?_)
          clear hK K
          (try simp only [List.getElem_toArray]); (try simp only [List.getElem_cons_succ]); (try simp only [List.getElem_cons_zero]); (try simp only [Act.put]); (try simp only [List.setIfInBounds_toArray]); (try simp only [List.set_cons_succ]); (try simp only [List.set_cons_zero])
          refine wpAnyH_ready (rs := [31]) (by kernel_rfl) (by simp) ?_
          refine AllReadyH.cons rfl (fun K hK => ?_) AllReadyH.nil
          go_simp
          go_at_call 46
          refine (specIsLexElimination_any N6 s6 P6 m6 d6 X6 _ (hP6.up hV8) (by omega)).mono ?_
          rintro e w408 ⟨rfl, hb408⟩
          have hV9 := Up.then_ hV8 hb408
          go_wp2_with fail
          refine hK.out _ _ (by exact ⟨hV9, fun _ _ hb => hV9.cell hb⟩) (fun hHeld9 => ?_)
          clear hK K
          (try simp only [List.getElem_toArray]); (try simp only [List.getElem_cons_succ]); (try simp only [List.getElem_cons_zero]); (try simp only [Act.put]); (try simp only [List.setIfInBounds_toArray]); (try simp only [List.set_cons_succ]); (try simp only [List.set_cons_zero])
          refine wpAnyH_take (i := 32) (v := ?_) rfl (by kernel_rfl) (by kernel_rfl) (by kernel_rfl) (fun _ _ _ h => h) (Or.inl ⟨by rfl, ?_⟩) (by assumption) ?_
          rotate_left
          · (intro w' hSw; go_simp; try with_reducible rfl)
          (try simp only [List.getElem_toArray]); (try simp only [List.getElem_cons_succ]); (try simp only [List.getElem_cons_zero]); (try simp only [Act.put]); (try simp only [List.setIfInBounds_toArray]); (try simp only [List.set_cons_succ]); (try simp only [List.set_cons_zero])
          refine wpAnyH_take (i := 33) (v := ?_) rfl (by kernel_rfl) (by kernel_rfl) (by kernel_rfl) (fun _ _ _ h => h) (Or.inl ⟨by rfl, ?_⟩) (by assumption) ?_
          rotate_left
          · (intro w' hSw; go_simp; try with_reducible rfl)
          (try simp only [List.getElem_toArray]); (try simp only [List.getElem_cons_succ]); (try simp only [List.getElem_cons_zero]); (try simp only [Act.put]); (try simp only [List.setIfInBounds_toArray]); (try simp only [List.set_cons_succ]); (try simp only [List.set_cons_zero])
          refine wpAnyH_take (i := 34) (v := ?_) rfl (by kernel_rfl) (by kernel_rfl) (by kernel_rfl) (fun _ _ _ h => h) (Or.inl ⟨by rfl, ?_⟩) (by assumption) ?_
          rotate_left
          · (intro w' hSw; go_simp; try with_reducible rfl)
          (try simp only [List.getElem_toArray]); (try simp only [List.getElem_cons_succ]); (try simp only [List.getElem_cons_zero]); (try simp only [Act.put]); (try simp only [List.setIfInBounds_toArray]); (try simp only [List.set_cons_succ]); (try simp only [List.set_cons_zero])
          refine wpAnyH_done (by kernel_rfl) ?_ _
          have hU40 := hV9
          go_wp2
          go_ret
          exact ⟨rfl, Up.then_ hw37 hU40⟩
        · have HEL : ∀ w', RI w' P2 m2 X2 → RI w' L2 xs.length xs → Calls Try.prog 30 #[.agg #[.int .i64 N2, .slice P2 m2 d2], .slice L2 xs.length e2] w' (fun e w'' => e = .returned (.bool (decide (fl.length = 0))) ∧ Below w'.heap.size w' w'') := fun w' h h2 => by rw [← HEF.out rfl]; exact implIsElimination_any N2 P2 L2 m2 d2 xs.length e2 X2 xs w' h h2 (by omega) (by omega) hcap2.1
          clear HEF
          obtain ⟨bz, hbz⟩ : ∃ bz, bz = decide (fl.length = 0) := ⟨_, rfl⟩
          have hbz2 : ((fl.length : Int) == 0) = bz := by rw [hbz, Bool.eq_iff_iff, beq_iff_eq, decide_eq_true_eq]; omega
          rw [← hbz] at HEL
          clear hbz
          go_wp2_with fail
          refine (HEL _ hP2 hQ2).mono ?_
          rintro e w25 ⟨rfl, hb25⟩
          have hU25 : Up w24 w25 := Up.then_ (by go_grown) hb25
          replace hB := hB.up hU25
          replace hG2 := hG2.up hU25
          replace hP2 := hP2.up hU25
          replace hQ2 := hQ2.up hU25
          replace yhG2 := hG2.two
          replace lhG2 := hG2.lt
          have hw25 := Up.then_ hw24 hU25
          clear HEL hw24
          clear hP2 hQ2 hG2 yhG2 lhG2
          have hlow30 : ∀ ad, B = some ad → ad.block < w25.heap.size := fun ad e => by have := hlow ad e; have := hw25.size; omega
          go_wp2_with fail
          refine (drawIsElimination_any B n c bs _ hB hs hlow30).mono ?_
          rintro e w30 ⟨N3, P3, m3, d3, X3, L3, e3, ys, rfl, hX3, hle3, hL3, hl3, hb30⟩
          have hU30 : Up w25 w30 := Up.then_ (by go_grown) hb30
          replace hB := hB.up hU30
          have hw30 := Up.then_ hw25 hU30
          have hm3 : m3 ≤ 6 := by rw [← hX3.len]; exact hle3
          have hcap3 := hL3.cap
          have hG3 := Blk.new w30 26 #[.int .i64 N3, .slice P3 m3 d3]
          have hU31 : Up w30 (w30.alloc (.cells #[.int .i64 N3, .slice P3 m3 d3] 26)) := by go_grown
          have hw31 := Up.then_ hw30 hU31
          have hP3 := hX3.ri.up hU31
          have hQ3 := hL3.ri.up hU31
          replace hB := hB.up hU31
          obtain ⟨g3, hg3⟩ : ∃ g3, g3 = w30.heap.size := ⟨_, rfl⟩
          rw [← hg3] at hG3
          go_wp2_with fail
          rw [← hg3]
          generalize w30.alloc (.cells #[.int .i64 N3, .slice P3 m3 d3] 26) = w31 at hG3 hP3 hQ3 hB hw31 ⊢
          have hlow31 : ∀ ad, B = some ad → ad.block < w31.heap.size := fun ad e => by have := hlow ad e; have := hw31.size; omega
          clear hg3 hU30 hU31 hb30 hX3 hL3 hw30 hle3
          refine (drawLaterNeighbours_any B n c bs _ hB hs hlow31).mono ?_
          rintro e w32 ⟨N4, P4, m4, d4, X4, L4, e4, zs, v4, rfl, hX4, hle4, hL4, hl4, hv41, hv42, hb32⟩
          have hU32 : Up w31 w32 := hb32
          replace hB := hB.up hU32
          replace hG3 := hG3.up hU32
          replace hP3 := hP3.up hU32
          replace hQ3 := hQ3.up hU32
          have hw32 := Up.then_ hw31 hU32
          have hm4 : m4 ≤ 6 := by rw [← hX4.len]; exact hle4
          have hcap4 := hL4.cap
          have hG4 := Blk.new w32 26 #[.int .i64 N4, .slice P4 m4 d4]
          have hU33 : Up w32 (w32.alloc (.cells #[.int .i64 N4, .slice P4 m4 d4] 26)) := by go_grown
          have hw33 := Up.then_ hw32 hU33
          have hP4 := hX4.ri.up hU33
          have hQ4 := hL4.ri.up hU33
          replace hB := hB.up hU33
          replace hG3 := hG3.up hU33
          replace hP3 := hP3.up hU33
          replace hQ3 := hQ3.up hU33
          obtain ⟨g4, hg4⟩ : ∃ g4, g4 = w32.heap.size := ⟨_, rfl⟩
          rw [← hg4] at hG4
          go_wp2_with fail
          rw [← hg4]
          generalize w32.alloc (.cells #[.int .i64 N4, .slice P4 m4 d4] 26) = w33 at hG4 hP4 hQ4 hB hG3 hP3 hQ3 hw33 ⊢
          have hlow33 : ∀ ad, B = some ad → ad.block < w33.heap.size := fun ad e => by have := hlow ad e; have := hw33.size; omega
          clear hg4 hU32 hU33 hb32 hX4 hL4 hw32 hle4 hw31
          refine (drawSimplicialOf_any B n c bs _ hB hs hlow33).mono ?_
          rintro e w34 ⟨N5, P5, m5, d5, X5, rfl, hX5, hle5, hb34⟩
          have hU34 : Up w33 w34 := hb34
          replace hB := hB.up hU34
          replace hG3 := hG3.up hU34
          replace hP3 := hP3.up hU34
          replace hQ3 := hQ3.up hU34
          replace hG4 := hG4.up hU34
          replace hP4 := hP4.up hU34
          replace hQ4 := hQ4.up hU34
          have hw34 := Up.then_ hw33 hU34
          have hm5 : m5 ≤ 6 := by rw [← hX5.len]; exact hle5
          have hG5 := Blk.new w34 26 #[.int .i64 N5, .slice P5 m5 d5]
          have hU35 : Up w34 (w34.alloc (.cells #[.int .i64 N5, .slice P5 m5 d5] 26)) := by go_grown
          have hw35 := Up.then_ hw34 hU35
          have hP5 := hX5.ri.up hU35
          replace hB := hB.up hU35
          replace hG3 := hG3.up hU35
          replace hP3 := hP3.up hU35
          replace hQ3 := hQ3.up hU35
          replace hG4 := hG4.up hU35
          replace hP4 := hP4.up hU35
          replace hQ4 := hQ4.up hU35
          obtain ⟨g5, hg5⟩ : ∃ g5, g5 = w34.heap.size := ⟨_, rfl⟩
          rw [← hg5] at hG5
          go_wp2_with fail
          rw [← hg5]
          generalize w34.alloc (.cells #[.int .i64 N5, .slice P5 m5 d5] 26) = w35 at hG5 hP5 hB hG3 hP3 hQ3 hG4 hP4 hQ4 hw35 ⊢
          have hlow35 : ∀ ad, B = some ad → ad.block < w35.heap.size := fun ad e => by have := hlow ad e; have := hw35.size; omega
          clear hg5 hU34 hU35 hb34 hX5 hw34 hle5 hw33
          refine (drawIsLexElimination_any B n c bs _ hB hs hlow35).mono ?_
          rintro e w36 ⟨N6, P6, m6, d6, X6, s6, rfl, hX6, hle6, hs61, hs62, hb36⟩
          have hU36 : Up w35 w36 := hb36
          replace hB := hB.up hU36
          replace hG3 := hG3.up hU36
          replace hP3 := hP3.up hU36
          replace hQ3 := hQ3.up hU36
          replace hG4 := hG4.up hU36
          replace hP4 := hP4.up hU36
          replace hQ4 := hQ4.up hU36
          replace hG5 := hG5.up hU36
          replace hP5 := hP5.up hU36
          have hw36 := Up.then_ hw35 hU36
          have hm6' : m6 ≤ 6 := by rw [← hX6.len]; exact hle6
          have hG6 := Blk.new w36 26 #[.int .i64 N6, .slice P6 m6 d6]
          have hU37 : Up w36 (w36.alloc (.cells #[.int .i64 N6, .slice P6 m6 d6] 26)) := by go_grown
          have hw37 := Up.then_ hw36 hU37
          have hP6 := hX6.ri.up hU37
          replace hG3 := hG3.up hU37
          replace hP3 := hP3.up hU37
          replace hQ3 := hQ3.up hU37
          replace hG4 := hG4.up hU37
          replace hP4 := hP4.up hU37
          replace hQ4 := hQ4.up hU37
          replace hG5 := hG5.up hU37
          replace hP5 := hP5.up hU37
          obtain ⟨g6, hg6⟩ : ∃ g6, g6 = w36.heap.size := ⟨_, rfl⟩
          rw [← hg6] at hG6
          go_wp2_with fail
          rw [← hg6]
          generalize w36.alloc (.cells #[.int .i64 N6, .slice P6 m6 d6] 26) = w37 at hG6 hP6 hG3 hP3 hQ3 hG4 hP4 hQ4 hG5 hP5 hw37 ⊢
          clear hg6 hU36 hU37 hb36 hX6 hw36 hle6 hw35 hlow31 hlow33 hlow35 hB
          have yhG3 := hG3.two
          have lhG3 := hG3.lt
          have yhG4 := hG4.two
          have lhG4 := hG4.lt
          have yhG5 := hG5.two
          have lhG5 := hG5.lt
          have yhG6 := hG6.two
          have lhG6 := hG6.lt
          obtain ⟨s5, hs5⟩ : ∃ s5, s5 = simpL N5 X5 := ⟨_, rfl⟩
          have hs5l : s5.length ≤ 7 := by rw [hs5]; exact simpL_small N5 X5
          have HSI : ∀ w', RI w' P5 m5 X5 → Calls Try.prog 34 #[.agg #[.int .i64 N5, .slice P5 m5 d5]] w' (GivesI s5 w') := fun w' h => by rw [hs5]; exact implSimplicialOf_any N5 P5 m5 d5 X5 w' h (by omega)
          have HSS : ∀ w', RI w' P5 m5 X5 → Calls Try.prog 45 #[.agg #[.int .i64 N5, .slice P5 m5 d5]] w' (GivesI s5 w') := fun w' h => by rw [hs5]; exact specSimplicialOf_any N5 P5 m5 d5 X5 w' h (by omega)
          clear hs5
          have hV0 : Up w37 w37.drew := (Up.refl _).drew
          refine wp_region_held_drew (S := (fun w' => Up w37 w' ∧ (∀ b o, b < w37.heap.size → w'.cell? ⟨b, o, none⟩ = w37.cell? ⟨b, o, none⟩))) (by kernel_rfl) (by exact ⟨hV0, fun _ _ hb => hV0.cell hb⟩) (fun hHeld => ?_)
          refine wpAnyH_take (i := 0) (v := ?_) rfl (by kernel_rfl) (by kernel_rfl) (by kernel_rfl) (fun _ _ _ h => h) (Or.inl ⟨by rfl, ?_⟩) (by assumption) ?_
          rotate_left
          · (intro w' hSw; go_simp; try with_reducible rfl)
          (try simp only [List.getElem_toArray]); (try simp only [List.getElem_cons_succ]); (try simp only [List.getElem_cons_zero]); (try simp only [Act.put]); (try simp only [List.setIfInBounds_toArray]); (try simp only [List.set_cons_succ]); (try simp only [List.set_cons_zero])
          refine wpAnyH_take (i := 1) (v := ?_) rfl (by kernel_rfl) (by kernel_rfl) (by kernel_rfl) (fun _ _ _ h => h) (Or.inl ⟨by rfl, ?_⟩) (by assumption) ?_
          rotate_left
          · (intro w' hSw; go_simp; try with_reducible rfl)
          (try simp only [List.getElem_toArray]); (try simp only [List.getElem_cons_succ]); (try simp only [List.getElem_cons_zero]); (try simp only [Act.put]); (try simp only [List.setIfInBounds_toArray]); (try simp only [List.set_cons_succ]); (try simp only [List.set_cons_zero])
          refine wpAnyH_take (i := 3) (v := ?_) rfl (by kernel_rfl) (by kernel_rfl) (by kernel_rfl) (fun _ _ _ h => h) (Or.inl ⟨by rfl, ?_⟩) (by assumption) ?_
          rotate_left
          · (intro w' hSw; go_simp; try with_reducible rfl)
          (try simp only [List.getElem_toArray]); (try simp only [List.getElem_cons_succ]); (try simp only [List.getElem_cons_zero]); (try simp only [Act.put]); (try simp only [List.setIfInBounds_toArray]); (try simp only [List.set_cons_succ]); (try simp only [List.set_cons_zero])
          refine wpAnyH_take (i := 4) (v := ?_) rfl (by kernel_rfl) (by kernel_rfl) (by kernel_rfl) (fun _ _ _ h => h) (Or.inl ⟨by rfl, ?_⟩) (by assumption) ?_
          rotate_left
          · (intro w' hSw; go_simp; try with_reducible rfl)
          (try simp only [List.getElem_toArray]); (try simp only [List.getElem_cons_succ]); (try simp only [List.getElem_cons_zero]); (try simp only [Act.put]); (try simp only [List.setIfInBounds_toArray]); (try simp only [List.set_cons_succ]); (try simp only [List.set_cons_zero])
          refine wpAnyH_ready (rs := [2]) (by kernel_rfl) (by simp) ?_
          refine AllReadyH.cons rfl (fun K hK => ?_) AllReadyH.nil
          go_simp
          go_at_call 30
          refine (implIsElimination_any N3 P3 L3 m3 d3 ys.length e3 X3 ys _ (hP3.up hV0) (hQ3.up hV0) (by omega) (by omega) hcap3.1).mono ?_
          rintro e w400 ⟨rfl, hb400⟩
          have hV1 := Up.then_ hV0 hb400
          go_wp2_with fail
          refine hK.out _ _ (by exact ⟨hV1, fun _ _ hb => hV1.cell hb⟩) (fun hHeld1 => ?_)
          clear hK K
          (try simp only [List.getElem_toArray]); (try simp only [List.getElem_cons_succ]); (try simp only [List.getElem_cons_zero]); (try simp only [Act.put]); (try simp only [List.setIfInBounds_toArray]); (try simp only [List.set_cons_succ]); (try simp only [List.set_cons_zero])
          refine wpAnyH_ready (rs := [5]) (by kernel_rfl) (by simp) ?_
          refine AllReadyH.cons rfl (fun K hK => ?_) AllReadyH.nil
          go_simp
          go_at_call 42
          refine (specIsElimination_any N3 P3 L3 m3 d3 ys.length e3 X3 ys _ (hP3.up hV1) (hQ3.up hV1) (by omega) (by omega)).mono ?_
          rintro e w401 ⟨rfl, hb401⟩
          have hV2 := Up.then_ hV1 hb401
          go_wp2_with fail
          refine hK.out _ _ (by exact ⟨hV2, fun _ _ hb => hV2.cell hb⟩) (fun hHeld2 => ?_)
          clear hK K
          (try simp only [List.getElem_toArray]); (try simp only [List.getElem_cons_succ]); (try simp only [List.getElem_cons_zero]); (try simp only [Act.put]); (try simp only [List.setIfInBounds_toArray]); (try simp only [List.set_cons_succ]); (try simp only [List.set_cons_zero])
          refine wpAnyH_take (i := 6) (v := ?_) rfl (by kernel_rfl) (by kernel_rfl) (by kernel_rfl) (fun _ _ _ h => h) (Or.inl ⟨by rfl, ?_⟩) (by assumption) ?_
          rotate_left
          · (intro w' hSw; go_simp; try with_reducible rfl)
          (try simp only [List.getElem_toArray]); (try simp only [List.getElem_cons_succ]); (try simp only [List.getElem_cons_zero]); (try simp only [Act.put]); (try simp only [List.setIfInBounds_toArray]); (try simp only [List.set_cons_succ]); (try simp only [List.set_cons_zero])
          refine wpAnyH_take (i := 7) (v := ?_) rfl (by kernel_rfl) (by kernel_rfl) (by kernel_rfl) (fun _ _ _ h => h) (Or.inl ⟨by rfl, ?_⟩) (by assumption) ?_
          rotate_left
          · (intro w' hSw; go_simp; try with_reducible rfl)
          (try simp only [List.getElem_toArray]); (try simp only [List.getElem_cons_succ]); (try simp only [List.getElem_cons_zero]); (try simp only [Act.put]); (try simp only [List.setIfInBounds_toArray]); (try simp only [List.set_cons_succ]); (try simp only [List.set_cons_zero])
          refine wpAnyH_take (i := 8) (v := ?_) rfl (by kernel_rfl) (by kernel_rfl) (by kernel_rfl) (fun _ _ _ h => h) (Or.inl ⟨by rfl, ?_⟩) (by assumption) ?_
          rotate_left
          · (intro w' hSw; go_simp; try with_reducible rfl)
          (try simp only [List.getElem_toArray]); (try simp only [List.getElem_cons_succ]); (try simp only [List.getElem_cons_zero]); (try simp only [Act.put]); (try simp only [List.setIfInBounds_toArray]); (try simp only [List.set_cons_succ]); (try simp only [List.set_cons_zero])
          refine wpAnyH_take (i := 9) (v := ?_) rfl (by kernel_rfl) (by kernel_rfl) (by kernel_rfl) (fun _ _ _ h => h) (Or.inl ⟨by rfl, ?_⟩) (by assumption) ?_
          rotate_left
          · (intro w' hSw; go_simp; try with_reducible rfl)
          (try simp only [List.getElem_toArray]); (try simp only [List.getElem_cons_succ]); (try simp only [List.getElem_cons_zero]); (try simp only [Act.put]); (try simp only [List.setIfInBounds_toArray]); (try simp only [List.set_cons_succ]); (try simp only [List.set_cons_zero])
          refine wpAnyH_take (i := 10) (v := ?_) rfl (by kernel_rfl) (by kernel_rfl) (by kernel_rfl) (fun _ _ _ h => h) (Or.inl ⟨by rfl, ?_⟩) (by assumption) ?_
          rotate_left
          · (intro w' hSw; go_simp; try with_reducible rfl)
          (try simp only [List.getElem_toArray]); (try simp only [List.getElem_cons_succ]); (try simp only [List.getElem_cons_zero]); (try simp only [Act.put]); (try simp only [List.setIfInBounds_toArray]); (try simp only [List.set_cons_succ]); (try simp only [List.set_cons_zero])
          refine wpAnyH_take (i := 12) (v := ?_) rfl (by kernel_rfl) (by kernel_rfl) (by kernel_rfl) (fun _ _ _ h => h) (Or.inl ⟨by rfl, ?_⟩) (by assumption) ?_
          rotate_left
          · (intro w' hSw; go_simp; try with_reducible rfl)
          (try simp only [List.getElem_toArray]); (try simp only [List.getElem_cons_succ]); (try simp only [List.getElem_cons_zero]); (try simp only [Act.put]); (try simp only [List.setIfInBounds_toArray]); (try simp only [List.set_cons_succ]); (try simp only [List.set_cons_zero])
          refine wpAnyH_take (i := 13) (v := ?_) rfl (by kernel_rfl) (by kernel_rfl) (by kernel_rfl) (fun _ _ _ h => h) (Or.inl ⟨by rfl, ?_⟩) (by assumption) ?_
          rotate_left
          · (intro w' hSw; go_simp; try with_reducible rfl)
          (try simp only [List.getElem_toArray]); (try simp only [List.getElem_cons_succ]); (try simp only [List.getElem_cons_zero]); (try simp only [Act.put]); (try simp only [List.setIfInBounds_toArray]); (try simp only [List.set_cons_succ]); (try simp only [List.set_cons_zero])
          refine wpAnyH_take (i := 14) (v := ?_) rfl (by kernel_rfl) (by kernel_rfl) (by kernel_rfl) (fun _ _ _ h => h) (Or.inl ⟨by rfl, ?_⟩) (by assumption) ?_
          rotate_left
          · (intro w' hSw; go_simp; try with_reducible rfl)
          (try simp only [List.getElem_toArray]); (try simp only [List.getElem_cons_succ]); (try simp only [List.getElem_cons_zero]); (try simp only [Act.put]); (try simp only [List.setIfInBounds_toArray]); (try simp only [List.set_cons_succ]); (try simp only [List.set_cons_zero])
          refine wpAnyH_ready (rs := [11]) (by kernel_rfl) (by simp) ?_
          refine AllReadyH.cons rfl (fun K hK => ?_) AllReadyH.nil
          go_simp
          go_at_call 43
          refine (implLater_any N4 v4 P4 L4 m4 d4 zs.length e4 X4 zs _ (hP4.up hV2) (hQ4.up hV2) (by omega) (by omega) hcap4.1).mono ?_
          rintro e w402 ⟨rfl, hb402⟩
          have hV3 := Up.then_ hV2 hb402
          go_wp2_with fail
          refine hK.out _ _ (by exact ⟨hV3, fun _ _ hb => hV3.cell hb⟩) (fun hHeld3 => ?_)
          clear hK K
          (try simp only [List.getElem_toArray]); (try simp only [List.getElem_cons_succ]); (try simp only [List.getElem_cons_zero]); (try simp only [Act.put]); (try simp only [List.setIfInBounds_toArray]); (try simp only [List.set_cons_succ]); (try simp only [List.set_cons_zero])
          refine wpAnyH_ready (rs := [15]) (by kernel_rfl) (by simp) ?_
          refine AllReadyH.cons rfl (fun K hK => ?_) AllReadyH.nil
          go_simp
          go_at_call 44
          refine (specLater_any N4 v4 P4 L4 m4 d4 zs.length e4 X4 zs _ (hP4.up hV3) (hQ4.up hV3) (by omega) (by omega)).mono ?_
          rintro e w403 ⟨rfl, hb403⟩
          have hV4 := Up.then_ hV3 hb403
          go_wp2_with fail
          refine hK.out _ _ (by exact ⟨hV4, fun _ _ hb => hV4.cell hb⟩) (fun hHeld4 => ?_)
          clear hK K
          (try simp only [List.getElem_toArray]); (try simp only [List.getElem_cons_succ]); (try simp only [List.getElem_cons_zero]); (try simp only [Act.put]); (try simp only [List.setIfInBounds_toArray]); (try simp only [List.set_cons_succ]); (try simp only [List.set_cons_zero])
          refine wpAnyH_take (i := 16) (v := ?_) rfl (by kernel_rfl) (by kernel_rfl) (by kernel_rfl) (fun _ _ _ h => h) (Or.inl ⟨by rfl, ?_⟩) (by assumption) ?_
          rotate_left
          · (intro w' hSw; go_simp; try with_reducible rfl)
          (try simp only [List.getElem_toArray]); (try simp only [List.getElem_cons_succ]); (try simp only [List.getElem_cons_zero]); (try simp only [Act.put]); (try simp only [List.setIfInBounds_toArray]); (try simp only [List.set_cons_succ]); (try simp only [List.set_cons_zero])
          refine wpAnyH_take (i := 17) (v := ?_) rfl (by kernel_rfl) (by kernel_rfl) (by kernel_rfl) (fun _ _ _ h => h) (Or.inl ⟨by rfl, ?_⟩) (by assumption) ?_
          rotate_left
          · (intro w' hSw; go_simp; try with_reducible rfl)
          (try simp only [List.getElem_toArray]); (try simp only [List.getElem_cons_succ]); (try simp only [List.getElem_cons_zero]); (try simp only [Act.put]); (try simp only [List.setIfInBounds_toArray]); (try simp only [List.set_cons_succ]); (try simp only [List.set_cons_zero])
          refine wpAnyH_take (i := 18) (v := ?_) rfl (by kernel_rfl) (by kernel_rfl) (by kernel_rfl) (fun _ _ _ h => h) (Or.inl ⟨by rfl, ?_⟩) (by assumption) ?_
          rotate_left
          · (intro w' hSw; go_simp; try with_reducible rfl)
          (try simp only [List.getElem_toArray]); (try simp only [List.getElem_cons_succ]); (try simp only [List.getElem_cons_zero]); (try simp only [Act.put]); (try simp only [List.setIfInBounds_toArray]); (try simp only [List.set_cons_succ]); (try simp only [List.set_cons_zero])
          refine wpAnyH_take (i := 19) (v := ?_) rfl (by kernel_rfl) (by kernel_rfl) (by kernel_rfl) (fun _ _ _ h => h) (Or.inl ⟨by rfl, ?_⟩) (by assumption) ?_
          rotate_left
          · (intro w' hSw; go_simp; try with_reducible rfl)
          (try simp only [List.getElem_toArray]); (try simp only [List.getElem_cons_succ]); (try simp only [List.getElem_cons_zero]); (try simp only [Act.put]); (try simp only [List.setIfInBounds_toArray]); (try simp only [List.set_cons_succ]); (try simp only [List.set_cons_zero])
          refine wpAnyH_take (i := 21) (v := ?_) rfl (by kernel_rfl) (by kernel_rfl) (by kernel_rfl) (fun _ _ _ h => h) (Or.inl ⟨by rfl, ?_⟩) (by assumption) ?_
          rotate_left
          · (intro w' hSw; go_simp; try with_reducible rfl)
          (try simp only [List.getElem_toArray]); (try simp only [List.getElem_cons_succ]); (try simp only [List.getElem_cons_zero]); (try simp only [Act.put]); (try simp only [List.setIfInBounds_toArray]); (try simp only [List.set_cons_succ]); (try simp only [List.set_cons_zero])
          refine wpAnyH_ready (rs := [20]) (by kernel_rfl) (by simp) ?_
          refine AllReadyH.cons rfl (fun K hK => ?_) AllReadyH.nil
          go_simp
          go_at_call 34
          refine (HSI _ (hP5.up hV4)).mono ?_
          rintro e w404 ⟨A44, c44, rfl, hO44, hb404⟩
          have hV5 := Up.then_ hV4 hb404
          go_wp2_with fail
          refine hK.out _ _ (by exact ⟨hV5, fun _ _ hb => hV5.cell hb⟩) (fun hHeld5 => ?_)
          clear hK K
          (try simp only [List.getElem_toArray]); (try simp only [List.getElem_cons_succ]); (try simp only [List.getElem_cons_zero]); (try simp only [Act.put]); (try simp only [List.setIfInBounds_toArray]); (try simp only [List.set_cons_succ]); (try simp only [List.set_cons_zero])
          refine wpAnyH_ready (rs := [22]) (by kernel_rfl) (by simp) ?_
          refine AllReadyH.cons rfl (fun K hK => ?_) AllReadyH.nil
          go_simp
          go_at_call 45
          refine (HSS _ (hP5.up hV5)).mono ?_
          rintro e w405 ⟨A45, c45, rfl, hO45, hb405⟩
          have hV6 := Up.then_ hV5 hb405
          go_wp2_with fail
          refine hK.out _ _ (by exact ⟨hV6, fun _ _ hb => hV6.cell hb⟩) (fun hHeld6 => ?_)
          clear hK K
          (try simp only [List.getElem_toArray]); (try simp only [List.getElem_cons_succ]); (try simp only [List.getElem_cons_zero]); (try simp only [Act.put]); (try simp only [List.setIfInBounds_toArray]); (try simp only [List.set_cons_succ]); (try simp only [List.set_cons_zero])
          refine wpAnyH_ready (rs := [23]) (by kernel_rfl) (by simp) ?_
          refine AllReadyH.cons rfl (fun K hK => ?_) AllReadyH.nil
          go_simp
          go_at_call 9
          refine (sameInts_up (hO44.ri.up hb405) hO45.ri (by omega)).mono ?_
          rintro e w406 ⟨rfl, hb406⟩
          have hV7 := Up.then_ hV6 hb406
          go_wp2_with fail
          refine hK.out _ _ (by exact ⟨hV7, fun _ _ hb => hV7.cell hb⟩) (fun hHeld7 => ?_)
          clear hK K
          (try simp only [List.getElem_toArray]); (try simp only [List.getElem_cons_succ]); (try simp only [List.getElem_cons_zero]); (try simp only [Act.put]); (try simp only [List.setIfInBounds_toArray]); (try simp only [List.set_cons_succ]); (try simp only [List.set_cons_zero])
          refine wpAnyH_take (i := 24) (v := ?_) rfl (by kernel_rfl) (by kernel_rfl) (by kernel_rfl) (fun _ _ _ h => h) (Or.inl ⟨by rfl, ?_⟩) (by assumption) ?_
          rotate_left
          · (intro w' hSw; go_simp; try with_reducible rfl)
          (try simp only [List.getElem_toArray]); (try simp only [List.getElem_cons_succ]); (try simp only [List.getElem_cons_zero]); (try simp only [Act.put]); (try simp only [List.setIfInBounds_toArray]); (try simp only [List.set_cons_succ]); (try simp only [List.set_cons_zero])
          refine wpAnyH_take (i := 25) (v := ?_) rfl (by kernel_rfl) (by kernel_rfl) (by kernel_rfl) (fun _ _ _ h => h) (Or.inl ⟨by rfl, ?_⟩) (by assumption) ?_
          rotate_left
          · (intro w' hSw; go_simp; try with_reducible rfl)
          (try simp only [List.getElem_toArray]); (try simp only [List.getElem_cons_succ]); (try simp only [List.getElem_cons_zero]); (try simp only [Act.put]); (try simp only [List.setIfInBounds_toArray]); (try simp only [List.set_cons_succ]); (try simp only [List.set_cons_zero])
          refine wpAnyH_take (i := 26) (v := ?_) rfl (by kernel_rfl) (by kernel_rfl) (by kernel_rfl) (fun _ _ _ h => h) (Or.inl ⟨by rfl, ?_⟩) (by assumption) ?_
          rotate_left
          · (intro w' hSw; go_simp; try with_reducible rfl)
          (try simp only [List.getElem_toArray]); (try simp only [List.getElem_cons_succ]); (try simp only [List.getElem_cons_zero]); (try simp only [Act.put]); (try simp only [List.setIfInBounds_toArray]); (try simp only [List.set_cons_succ]); (try simp only [List.set_cons_zero])
          refine wpAnyH_take (i := 27) (v := ?_) rfl (by kernel_rfl) (by kernel_rfl) (by kernel_rfl) (fun _ _ _ h => h) (Or.inl ⟨by rfl, ?_⟩) (by assumption) ?_
          rotate_left
          · (intro w' hSw; go_simp; try with_reducible rfl)
          (try simp only [List.getElem_toArray]); (try simp only [List.getElem_cons_succ]); (try simp only [List.getElem_cons_zero]); (try simp only [Act.put]); (try simp only [List.setIfInBounds_toArray]); (try simp only [List.set_cons_succ]); (try simp only [List.set_cons_zero])
          refine wpAnyH_take (i := 29) (v := ?_) rfl (by kernel_rfl) (by kernel_rfl) (by kernel_rfl) (fun _ _ _ h => h) (Or.inl ⟨by rfl, ?_⟩) (by assumption) ?_
          rotate_left
          · (intro w' hSw; go_simp; try with_reducible rfl)
          (try simp only [List.getElem_toArray]); (try simp only [List.getElem_cons_succ]); (try simp only [List.getElem_cons_zero]); (try simp only [Act.put]); (try simp only [List.setIfInBounds_toArray]); (try simp only [List.set_cons_succ]); (try simp only [List.set_cons_zero])
          refine wpAnyH_take (i := 30) (v := ?_) rfl (by kernel_rfl) (by kernel_rfl) (by kernel_rfl) (fun _ _ _ h => h) (Or.inl ⟨by rfl, ?_⟩) (by assumption) ?_
          rotate_left
          · (intro w' hSw; go_simp; try with_reducible rfl)
          (try simp only [List.getElem_toArray]); (try simp only [List.getElem_cons_succ]); (try simp only [List.getElem_cons_zero]); (try simp only [Act.put]); (try simp only [List.setIfInBounds_toArray]); (try simp only [List.set_cons_succ]); (try simp only [List.set_cons_zero])
          refine wpAnyH_ready (rs := [28]) (by kernel_rfl) (by simp) ?_
          refine AllReadyH.cons rfl (fun K hK => ?_) AllReadyH.nil
          go_simp
          go_at_call 32
          refine (implIsLexElimination_any N6 s6 P6 m6 d6 X6 _ (hP6.up hV7) (by omega)).mono ?_
          rintro e w407 ⟨rfl, hb407⟩
          have hV8 := Up.then_ hV7 hb407
          go_wp2_with fail
          refine hK.out _ _ (by exact ⟨hV8, fun _ _ hb => hV8.cell hb⟩) (fun hHeld8 => ?_)
          clear hK K
          (try simp only [List.getElem_toArray]); (try simp only [List.getElem_cons_succ]); (try simp only [List.getElem_cons_zero]); (try simp only [Act.put]); (try simp only [List.setIfInBounds_toArray]); (try simp only [List.set_cons_succ]); (try simp only [List.set_cons_zero])
          refine wpAnyH_ready (rs := [31]) (by kernel_rfl) (by simp) ?_
          refine AllReadyH.cons rfl (fun K hK => ?_) AllReadyH.nil
          go_simp
          go_at_call 46
          refine (specIsLexElimination_any N6 s6 P6 m6 d6 X6 _ (hP6.up hV8) (by omega)).mono ?_
          rintro e w408 ⟨rfl, hb408⟩
          have hV9 := Up.then_ hV8 hb408
          go_wp2_with fail
          refine hK.out _ _ (by exact ⟨hV9, fun _ _ hb => hV9.cell hb⟩) (fun hHeld9 => ?_)
          clear hK K
          (try simp only [List.getElem_toArray]); (try simp only [List.getElem_cons_succ]); (try simp only [List.getElem_cons_zero]); (try simp only [Act.put]); (try simp only [List.setIfInBounds_toArray]); (try simp only [List.set_cons_succ]); (try simp only [List.set_cons_zero])
          refine wpAnyH_take (i := 32) (v := ?_) rfl (by kernel_rfl) (by kernel_rfl) (by kernel_rfl) (fun _ _ _ h => h) (Or.inl ⟨by rfl, ?_⟩) (by assumption) ?_
          rotate_left
          · (intro w' hSw; go_simp; try with_reducible rfl)
          (try simp only [List.getElem_toArray]); (try simp only [List.getElem_cons_succ]); (try simp only [List.getElem_cons_zero]); (try simp only [Act.put]); (try simp only [List.setIfInBounds_toArray]); (try simp only [List.set_cons_succ]); (try simp only [List.set_cons_zero])
          refine wpAnyH_take (i := 33) (v := ?_) rfl (by kernel_rfl) (by kernel_rfl) (by kernel_rfl) (fun _ _ _ h => h) (Or.inl ⟨by rfl, ?_⟩) (by assumption) ?_
          rotate_left
          · (intro w' hSw; go_simp; try with_reducible rfl)
          (try simp only [List.getElem_toArray]); (try simp only [List.getElem_cons_succ]); (try simp only [List.getElem_cons_zero]); (try simp only [Act.put]); (try simp only [List.setIfInBounds_toArray]); (try simp only [List.set_cons_succ]); (try simp only [List.set_cons_zero])
          refine wpAnyH_take (i := 34) (v := ?_) rfl (by kernel_rfl) (by kernel_rfl) (by kernel_rfl) (fun _ _ _ h => h) (Or.inl ⟨by rfl, ?_⟩) (by assumption) ?_
          rotate_left
          · (intro w' hSw; go_simp; try with_reducible rfl)
          (try simp only [List.getElem_toArray]); (try simp only [List.getElem_cons_succ]); (try simp only [List.getElem_cons_zero]); (try simp only [Act.put]); (try simp only [List.setIfInBounds_toArray]); (try simp only [List.set_cons_succ]); (try simp only [List.set_cons_zero])
          refine wpAnyH_done (by kernel_rfl) ?_ _
          have hU40 := hV9
          go_wp2
          go_ret
          exact ⟨rfl, Up.then_ hw37 hU40⟩
      · cases ho
        · cases hiff
        · clear hiff
          clear hO5
          clear hX hG yhG lhG
          have hlowT : ∀ ad, B = some ad → ad.block < w9.heap.size := fun ad e => by have := hlow ad e; have := hw9.size; omega
          go_wp2_with fail
          refine (drawFillOf_any B n c bs _ hB hs hlowT).mono ?_
          rintro e w20 ⟨N2, P2, m2, d2, X2, L2, e2, xs, rfl, hX2, hle2, hL2, hl2, hb20⟩
          have hU20 : Up w9 w20 := Up.then_ (by go_grown) hb20
          replace hB := hB.up hU20
          have hw20 := Up.then_ hw9 hU20
          have hm2 : m2 ≤ 6 := by rw [← hX2.len]; exact hle2
          have hG2 := Blk.new w20 26 #[.int .i64 N2, .slice P2 m2 d2]
          have hU21 : Up w20 (w20.alloc (.cells #[.int .i64 N2, .slice P2 m2 d2] 26)) := by go_grown
          have hw21 := Up.then_ hw20 hU21
          have hcap2 := hL2.cap
          have hP2 := hX2.ri.up hU21
          have hQ2 := hL2.ri.up hU21
          replace hB := hB.up hU21
          obtain ⟨g2, hg2⟩ : ∃ g2, g2 = w20.heap.size := ⟨_, rfl⟩
          rw [← hg2] at hG2
          go_wp2_with fail
          rw [← hg2]
          generalize w20.alloc (.cells #[.int .i64 N2, .slice P2 m2 d2] 26) = w21 at hG2 hP2 hQ2 hB hw21 ⊢
          clear hg2 hU20 hU21 hb20 hX2 hL2 hw20 hle2
          have yhG2 := hG2.two
          have lhG2 := hG2.lt
          obtain ⟨fl, hfl⟩ : ∃ fl, fl = fillOf N2 X2 xs := ⟨_, rfl⟩
          obtain ⟨io, hio⟩ : ∃ io, io = isOrder N2 X2 xs := ⟨_, rfl⟩
          have hfll : fl.length ≤ 49 := by rw [hfl]; exact fillOf_small N2 X2 xs
          have HFI : ∀ w', RI w' P2 m2 X2 → RI w' L2 xs.length xs → Calls Try.prog 31 #[.agg #[.int .i64 N2, .slice P2 m2 d2], .slice L2 xs.length e2] w' (GivesRB (fl.map row2) io w') := fun w' h h2 => by rw [hfl, hio]; exact implFillOf_any N2 P2 L2 m2 d2 xs.length e2 X2 xs w' h h2 (by omega) (by omega) hcap2.1
          have HFS : ∀ w', RI w' P2 m2 X2 → RI w' L2 xs.length xs → Calls Try.prog 36 #[.agg #[.int .i64 N2, .slice P2 m2 d2], .slice L2 xs.length e2] w' (GivesRB (fl.map row2) io w') := fun w' h h2 => by rw [hfl, hio]; exact specFillOf_any N2 P2 L2 m2 d2 xs.length e2 X2 xs w' h h2 (by omega) (by omega)
          have HEF := Lib.hid (show io = true → isElim N2 X2 xs = decide (fl.length = 0) from fun e => by rw [hfl]; exact (fillOf_none (by rw [← hio]; exact e)).symm)
          have HFL := Lib.hid (show ∀ ps : List RowP, ps.map Prod.snd = fl.map row2 → ps.length = fl.length from fun ps h => by have := congrArg List.length h; simpa using this)
          clear hfl hio
          go_wp2_with fail
          refine (HFI _ hP2 hQ2).mono ?_
          rintro e w22 ⟨A22, c22, ps, hps, rfl, hO22, hb22⟩
          have hU22 : Up w21 w22 := Up.then_ (by go_grown) hb22
          replace hB := hB.up hU22
          replace hG2 := hG2.up hU22
          replace hP2 := hP2.up hU22
          replace hQ2 := hQ2.up hU22
          replace yhG2 := hG2.two
          replace lhG2 := hG2.lt
          have HPS := Lib.hid hps
          have hpl := HFL.out ps hps
          rw [hpl] at hO22 ⊢
          clear hps hpl
          replace yhG2 := hG2.two
          replace lhG2 := hG2.lt
          have hw22 := Up.then_ hw21 hU22
          go_wp2_with fail
          refine (HFS _ hP2 hQ2).mono ?_
          rintro e w23 ⟨A23, c23, qs, hqs, rfl, hO23, hb23⟩
          have hU23 : Up w22 w23 := Up.then_ (by go_grown) hb23
          replace hB := hB.up hU23
          replace hG2 := hG2.up hU23
          replace hP2 := hP2.up hU23
          replace hQ2 := hQ2.up hU23
          replace hO22 := hO22.up hU23
          replace yhG2 := hG2.two
          replace lhG2 := hG2.lt
          have HQS := Lib.hid hqs
          have hql := HFL.out qs hqs
          rw [hql] at hO23 ⊢
          clear hqs hql
          replace yhG2 := hG2.two
          replace lhG2 := hG2.lt
          have hw23 := Up.then_ hw22 hU23
          clear HFI HFS HFL hU22 hU23 hb22 hb23 hw21 hw22
          have HSL := Lib.hid (show ps.map Prod.snd = qs.map Prod.snd by rw [HPS.out, HQS.out])
          have HRW := Lib.hid (row2_rows HPS.out)
          go_wp2_with fail
          refine (sameLists_up hO22 hO23 HSL.out HRW.out (by omega)).mono ?_
          rintro e w24 ⟨rfl, hb24⟩
          have hU24 : Up w23 w24 := Up.then_ (by go_grown) hb24
          replace hB := hB.up hU24
          replace hG2 := hG2.up hU24
          replace hP2 := hP2.up hU24
          replace hQ2 := hQ2.up hU24
          replace hO22 := hO22.up hU24
          replace hO23 := hO23.up hU24
          replace yhG2 := hG2.two
          replace lhG2 := hG2.lt
          have hw24 := Up.then_ hw23 hU24
          clear HSL HRW HPS HQS hO22 hO23 hb24 hU24 hw23
          cases io
          · clear HEF
            clear hP2 hQ2 hG2 yhG2 lhG2
            have hlow30 : ∀ ad, B = some ad → ad.block < w24.heap.size := fun ad e => by have := hlow ad e; have := hw24.size; omega
            go_wp2_with fail
            refine (drawIsElimination_any B n c bs _ hB hs hlow30).mono ?_
            rintro e w30 ⟨N3, P3, m3, d3, X3, L3, e3, ys, rfl, hX3, hle3, hL3, hl3, hb30⟩
            have hU30 : Up w24 w30 := Up.then_ (by go_grown) hb30
            replace hB := hB.up hU30
            have hw30 := Up.then_ hw24 hU30
            have hm3 : m3 ≤ 6 := by rw [← hX3.len]; exact hle3
            have hcap3 := hL3.cap
            have hG3 := Blk.new w30 26 #[.int .i64 N3, .slice P3 m3 d3]
            have hU31 : Up w30 (w30.alloc (.cells #[.int .i64 N3, .slice P3 m3 d3] 26)) := by go_grown
            have hw31 := Up.then_ hw30 hU31
            have hP3 := hX3.ri.up hU31
            have hQ3 := hL3.ri.up hU31
            replace hB := hB.up hU31
            obtain ⟨g3, hg3⟩ : ∃ g3, g3 = w30.heap.size := ⟨_, rfl⟩
            rw [← hg3] at hG3
            go_wp2_with fail
            rw [← hg3]
            generalize w30.alloc (.cells #[.int .i64 N3, .slice P3 m3 d3] 26) = w31 at hG3 hP3 hQ3 hB hw31 ⊢
            have hlow31 : ∀ ad, B = some ad → ad.block < w31.heap.size := fun ad e => by have := hlow ad e; have := hw31.size; omega
            clear hg3 hU30 hU31 hb30 hX3 hL3 hw30 hle3
            refine (drawLaterNeighbours_any B n c bs _ hB hs hlow31).mono ?_
            rintro e w32 ⟨N4, P4, m4, d4, X4, L4, e4, zs, v4, rfl, hX4, hle4, hL4, hl4, hv41, hv42, hb32⟩
            have hU32 : Up w31 w32 := hb32
            replace hB := hB.up hU32
            replace hG3 := hG3.up hU32
            replace hP3 := hP3.up hU32
            replace hQ3 := hQ3.up hU32
            have hw32 := Up.then_ hw31 hU32
            have hm4 : m4 ≤ 6 := by rw [← hX4.len]; exact hle4
            have hcap4 := hL4.cap
            have hG4 := Blk.new w32 26 #[.int .i64 N4, .slice P4 m4 d4]
            have hU33 : Up w32 (w32.alloc (.cells #[.int .i64 N4, .slice P4 m4 d4] 26)) := by go_grown
            have hw33 := Up.then_ hw32 hU33
            have hP4 := hX4.ri.up hU33
            have hQ4 := hL4.ri.up hU33
            replace hB := hB.up hU33
            replace hG3 := hG3.up hU33
            replace hP3 := hP3.up hU33
            replace hQ3 := hQ3.up hU33
            obtain ⟨g4, hg4⟩ : ∃ g4, g4 = w32.heap.size := ⟨_, rfl⟩
            rw [← hg4] at hG4
            go_wp2_with fail
            rw [← hg4]
            generalize w32.alloc (.cells #[.int .i64 N4, .slice P4 m4 d4] 26) = w33 at hG4 hP4 hQ4 hB hG3 hP3 hQ3 hw33 ⊢
            have hlow33 : ∀ ad, B = some ad → ad.block < w33.heap.size := fun ad e => by have := hlow ad e; have := hw33.size; omega
            clear hg4 hU32 hU33 hb32 hX4 hL4 hw32 hle4 hw31
            refine (drawSimplicialOf_any B n c bs _ hB hs hlow33).mono ?_
            rintro e w34 ⟨N5, P5, m5, d5, X5, rfl, hX5, hle5, hb34⟩
            have hU34 : Up w33 w34 := hb34
            replace hB := hB.up hU34
            replace hG3 := hG3.up hU34
            replace hP3 := hP3.up hU34
            replace hQ3 := hQ3.up hU34
            replace hG4 := hG4.up hU34
            replace hP4 := hP4.up hU34
            replace hQ4 := hQ4.up hU34
            have hw34 := Up.then_ hw33 hU34
            have hm5 : m5 ≤ 6 := by rw [← hX5.len]; exact hle5
            have hG5 := Blk.new w34 26 #[.int .i64 N5, .slice P5 m5 d5]
            have hU35 : Up w34 (w34.alloc (.cells #[.int .i64 N5, .slice P5 m5 d5] 26)) := by go_grown
            have hw35 := Up.then_ hw34 hU35
            have hP5 := hX5.ri.up hU35
            replace hB := hB.up hU35
            replace hG3 := hG3.up hU35
            replace hP3 := hP3.up hU35
            replace hQ3 := hQ3.up hU35
            replace hG4 := hG4.up hU35
            replace hP4 := hP4.up hU35
            replace hQ4 := hQ4.up hU35
            obtain ⟨g5, hg5⟩ : ∃ g5, g5 = w34.heap.size := ⟨_, rfl⟩
            rw [← hg5] at hG5
            go_wp2_with fail
            rw [← hg5]
            generalize w34.alloc (.cells #[.int .i64 N5, .slice P5 m5 d5] 26) = w35 at hG5 hP5 hB hG3 hP3 hQ3 hG4 hP4 hQ4 hw35 ⊢
            have hlow35 : ∀ ad, B = some ad → ad.block < w35.heap.size := fun ad e => by have := hlow ad e; have := hw35.size; omega
            clear hg5 hU34 hU35 hb34 hX5 hw34 hle5 hw33
            refine (drawIsLexElimination_any B n c bs _ hB hs hlow35).mono ?_
            rintro e w36 ⟨N6, P6, m6, d6, X6, s6, rfl, hX6, hle6, hs61, hs62, hb36⟩
            have hU36 : Up w35 w36 := hb36
            replace hB := hB.up hU36
            replace hG3 := hG3.up hU36
            replace hP3 := hP3.up hU36
            replace hQ3 := hQ3.up hU36
            replace hG4 := hG4.up hU36
            replace hP4 := hP4.up hU36
            replace hQ4 := hQ4.up hU36
            replace hG5 := hG5.up hU36
            replace hP5 := hP5.up hU36
            have hw36 := Up.then_ hw35 hU36
            have hm6' : m6 ≤ 6 := by rw [← hX6.len]; exact hle6
            have hG6 := Blk.new w36 26 #[.int .i64 N6, .slice P6 m6 d6]
            have hU37 : Up w36 (w36.alloc (.cells #[.int .i64 N6, .slice P6 m6 d6] 26)) := by go_grown
            have hw37 := Up.then_ hw36 hU37
            have hP6 := hX6.ri.up hU37
            replace hG3 := hG3.up hU37
            replace hP3 := hP3.up hU37
            replace hQ3 := hQ3.up hU37
            replace hG4 := hG4.up hU37
            replace hP4 := hP4.up hU37
            replace hQ4 := hQ4.up hU37
            replace hG5 := hG5.up hU37
            replace hP5 := hP5.up hU37
            obtain ⟨g6, hg6⟩ : ∃ g6, g6 = w36.heap.size := ⟨_, rfl⟩
            rw [← hg6] at hG6
            go_wp2_with fail
            rw [← hg6]
            generalize w36.alloc (.cells #[.int .i64 N6, .slice P6 m6 d6] 26) = w37 at hG6 hP6 hG3 hP3 hQ3 hG4 hP4 hQ4 hG5 hP5 hw37 ⊢
            clear hg6 hU36 hU37 hb36 hX6 hw36 hle6 hw35 hlow31 hlow33 hlow35 hB
            have yhG3 := hG3.two
            have lhG3 := hG3.lt
            have yhG4 := hG4.two
            have lhG4 := hG4.lt
            have yhG5 := hG5.two
            have lhG5 := hG5.lt
            have yhG6 := hG6.two
            have lhG6 := hG6.lt
            obtain ⟨s5, hs5⟩ : ∃ s5, s5 = simpL N5 X5 := ⟨_, rfl⟩
            have hs5l : s5.length ≤ 7 := by rw [hs5]; exact simpL_small N5 X5
            have HSI : ∀ w', RI w' P5 m5 X5 → Calls Try.prog 34 #[.agg #[.int .i64 N5, .slice P5 m5 d5]] w' (GivesI s5 w') := fun w' h => by rw [hs5]; exact implSimplicialOf_any N5 P5 m5 d5 X5 w' h (by omega)
            have HSS : ∀ w', RI w' P5 m5 X5 → Calls Try.prog 45 #[.agg #[.int .i64 N5, .slice P5 m5 d5]] w' (GivesI s5 w') := fun w' h => by rw [hs5]; exact specSimplicialOf_any N5 P5 m5 d5 X5 w' h (by omega)
            clear hs5
            have hV0 : Up w37 w37.drew := (Up.refl _).drew
            refine wp_region_held_drew (S := (fun w' => Up w37 w' ∧ (∀ b o, b < w37.heap.size → w'.cell? ⟨b, o, none⟩ = w37.cell? ⟨b, o, none⟩))) (by kernel_rfl) (by exact ⟨hV0, fun _ _ hb => hV0.cell hb⟩) (fun hHeld => ?_)
            refine wpAnyH_take (i := 0) (v := ?_) rfl (by kernel_rfl) (by kernel_rfl) (by kernel_rfl) (fun _ _ _ h => h) (Or.inl ⟨by rfl, ?_⟩) (by assumption) ?_
            rotate_left
            · (intro w' hSw; go_simp; try with_reducible rfl)
            (try simp only [List.getElem_toArray]); (try simp only [List.getElem_cons_succ]); (try simp only [List.getElem_cons_zero]); (try simp only [Act.put]); (try simp only [List.setIfInBounds_toArray]); (try simp only [List.set_cons_succ]); (try simp only [List.set_cons_zero])
            refine wpAnyH_take (i := 1) (v := ?_) rfl (by kernel_rfl) (by kernel_rfl) (by kernel_rfl) (fun _ _ _ h => h) (Or.inl ⟨by rfl, ?_⟩) (by assumption) ?_
            rotate_left
            · (intro w' hSw; go_simp; try with_reducible rfl)
            (try simp only [List.getElem_toArray]); (try simp only [List.getElem_cons_succ]); (try simp only [List.getElem_cons_zero]); (try simp only [Act.put]); (try simp only [List.setIfInBounds_toArray]); (try simp only [List.set_cons_succ]); (try simp only [List.set_cons_zero])
            refine wpAnyH_take (i := 3) (v := ?_) rfl (by kernel_rfl) (by kernel_rfl) (by kernel_rfl) (fun _ _ _ h => h) (Or.inl ⟨by rfl, ?_⟩) (by assumption) ?_
            rotate_left
            · (intro w' hSw; go_simp; try with_reducible rfl)
            (try simp only [List.getElem_toArray]); (try simp only [List.getElem_cons_succ]); (try simp only [List.getElem_cons_zero]); (try simp only [Act.put]); (try simp only [List.setIfInBounds_toArray]); (try simp only [List.set_cons_succ]); (try simp only [List.set_cons_zero])
            refine wpAnyH_take (i := 4) (v := ?_) rfl (by kernel_rfl) (by kernel_rfl) (by kernel_rfl) (fun _ _ _ h => h) (Or.inl ⟨by rfl, ?_⟩) (by assumption) ?_
            rotate_left
            · (intro w' hSw; go_simp; try with_reducible rfl)
            (try simp only [List.getElem_toArray]); (try simp only [List.getElem_cons_succ]); (try simp only [List.getElem_cons_zero]); (try simp only [Act.put]); (try simp only [List.setIfInBounds_toArray]); (try simp only [List.set_cons_succ]); (try simp only [List.set_cons_zero])
            refine wpAnyH_ready (rs := [2]) (by kernel_rfl) (by simp) ?_
            refine AllReadyH.cons rfl (fun K hK => ?_) AllReadyH.nil
            go_simp
            go_at_call 30
            refine (implIsElimination_any N3 P3 L3 m3 d3 ys.length e3 X3 ys _ (hP3.up hV0) (hQ3.up hV0) (by omega) (by omega) hcap3.1).mono ?_
            rintro e w400 ⟨rfl, hb400⟩
            have hV1 := Up.then_ hV0 hb400
            go_wp2_with fail
            refine hK.out _ _ (by exact ⟨hV1, fun _ _ hb => hV1.cell hb⟩) (fun hHeld1 => ?_)
            clear hK K
            (try simp only [List.getElem_toArray]); (try simp only [List.getElem_cons_succ]); (try simp only [List.getElem_cons_zero]); (try simp only [Act.put]); (try simp only [List.setIfInBounds_toArray]); (try simp only [List.set_cons_succ]); (try simp only [List.set_cons_zero])
            refine wpAnyH_ready (rs := [5]) (by kernel_rfl) (by simp) ?_
            refine AllReadyH.cons rfl (fun K hK => ?_) AllReadyH.nil
            go_simp
            go_at_call 42
            refine (specIsElimination_any N3 P3 L3 m3 d3 ys.length e3 X3 ys _ (hP3.up hV1) (hQ3.up hV1) (by omega) (by omega)).mono ?_
            rintro e w401 ⟨rfl, hb401⟩
            have hV2 := Up.then_ hV1 hb401
            go_wp2_with fail
            refine hK.out _ _ (by exact ⟨hV2, fun _ _ hb => hV2.cell hb⟩) (fun hHeld2 => ?_)
            clear hK K
            (try simp only [List.getElem_toArray]); (try simp only [List.getElem_cons_succ]); (try simp only [List.getElem_cons_zero]); (try simp only [Act.put]); (try simp only [List.setIfInBounds_toArray]); (try simp only [List.set_cons_succ]); (try simp only [List.set_cons_zero])
            refine wpAnyH_take (i := 6) (v := ?_) rfl (by kernel_rfl) (by kernel_rfl) (by kernel_rfl) (fun _ _ _ h => h) (Or.inl ⟨by rfl, ?_⟩) (by assumption) ?_
            rotate_left
            · (intro w' hSw; go_simp; try with_reducible rfl)
            (try simp only [List.getElem_toArray]); (try simp only [List.getElem_cons_succ]); (try simp only [List.getElem_cons_zero]); (try simp only [Act.put]); (try simp only [List.setIfInBounds_toArray]); (try simp only [List.set_cons_succ]); (try simp only [List.set_cons_zero])
            refine wpAnyH_take (i := 7) (v := ?_) rfl (by kernel_rfl) (by kernel_rfl) (by kernel_rfl) (fun _ _ _ h => h) (Or.inl ⟨by rfl, ?_⟩) (by assumption) ?_
            rotate_left
            · (intro w' hSw; go_simp; try with_reducible rfl)
            (try simp only [List.getElem_toArray]); (try simp only [List.getElem_cons_succ]); (try simp only [List.getElem_cons_zero]); (try simp only [Act.put]); (try simp only [List.setIfInBounds_toArray]); (try simp only [List.set_cons_succ]); (try simp only [List.set_cons_zero])
            refine wpAnyH_take (i := 8) (v := ?_) rfl (by kernel_rfl) (by kernel_rfl) (by kernel_rfl) (fun _ _ _ h => h) (Or.inl ⟨by rfl, ?_⟩) (by assumption) ?_
            rotate_left
            · (intro w' hSw; go_simp; try with_reducible rfl)
            (try simp only [List.getElem_toArray]); (try simp only [List.getElem_cons_succ]); (try simp only [List.getElem_cons_zero]); (try simp only [Act.put]); (try simp only [List.setIfInBounds_toArray]); (try simp only [List.set_cons_succ]); (try simp only [List.set_cons_zero])
            refine wpAnyH_take (i := 9) (v := ?_) rfl (by kernel_rfl) (by kernel_rfl) (by kernel_rfl) (fun _ _ _ h => h) (Or.inl ⟨by rfl, ?_⟩) (by assumption) ?_
            rotate_left
            · (intro w' hSw; go_simp; try with_reducible rfl)
            (try simp only [List.getElem_toArray]); (try simp only [List.getElem_cons_succ]); (try simp only [List.getElem_cons_zero]); (try simp only [Act.put]); (try simp only [List.setIfInBounds_toArray]); (try simp only [List.set_cons_succ]); (try simp only [List.set_cons_zero])
            refine wpAnyH_take (i := 10) (v := ?_) rfl (by kernel_rfl) (by kernel_rfl) (by kernel_rfl) (fun _ _ _ h => h) (Or.inl ⟨by rfl, ?_⟩) (by assumption) ?_
            rotate_left
            · (intro w' hSw; go_simp; try with_reducible rfl)
            (try simp only [List.getElem_toArray]); (try simp only [List.getElem_cons_succ]); (try simp only [List.getElem_cons_zero]); (try simp only [Act.put]); (try simp only [List.setIfInBounds_toArray]); (try simp only [List.set_cons_succ]); (try simp only [List.set_cons_zero])
            refine wpAnyH_take (i := 12) (v := ?_) rfl (by kernel_rfl) (by kernel_rfl) (by kernel_rfl) (fun _ _ _ h => h) (Or.inl ⟨by rfl, ?_⟩) (by assumption) ?_
            rotate_left
            · (intro w' hSw; go_simp; try with_reducible rfl)
            (try simp only [List.getElem_toArray]); (try simp only [List.getElem_cons_succ]); (try simp only [List.getElem_cons_zero]); (try simp only [Act.put]); (try simp only [List.setIfInBounds_toArray]); (try simp only [List.set_cons_succ]); (try simp only [List.set_cons_zero])
            refine wpAnyH_take (i := 13) (v := ?_) rfl (by kernel_rfl) (by kernel_rfl) (by kernel_rfl) (fun _ _ _ h => h) (Or.inl ⟨by rfl, ?_⟩) (by assumption) ?_
            rotate_left
            · (intro w' hSw; go_simp; try with_reducible rfl)
            (try simp only [List.getElem_toArray]); (try simp only [List.getElem_cons_succ]); (try simp only [List.getElem_cons_zero]); (try simp only [Act.put]); (try simp only [List.setIfInBounds_toArray]); (try simp only [List.set_cons_succ]); (try simp only [List.set_cons_zero])
            refine wpAnyH_take (i := 14) (v := ?_) rfl (by kernel_rfl) (by kernel_rfl) (by kernel_rfl) (fun _ _ _ h => h) (Or.inl ⟨by rfl, ?_⟩) (by assumption) ?_
            rotate_left
            · (intro w' hSw; go_simp; try with_reducible rfl)
            (try simp only [List.getElem_toArray]); (try simp only [List.getElem_cons_succ]); (try simp only [List.getElem_cons_zero]); (try simp only [Act.put]); (try simp only [List.setIfInBounds_toArray]); (try simp only [List.set_cons_succ]); (try simp only [List.set_cons_zero])
            refine wpAnyH_ready (rs := [11]) (by kernel_rfl) (by simp) ?_
            refine AllReadyH.cons rfl (fun K hK => ?_) AllReadyH.nil
            go_simp
            go_at_call 43
            refine (implLater_any N4 v4 P4 L4 m4 d4 zs.length e4 X4 zs _ (hP4.up hV2) (hQ4.up hV2) (by omega) (by omega) hcap4.1).mono ?_
            rintro e w402 ⟨rfl, hb402⟩
            have hV3 := Up.then_ hV2 hb402
            go_wp2_with fail
            refine hK.out _ _ (by exact ⟨hV3, fun _ _ hb => hV3.cell hb⟩) (fun hHeld3 => ?_)
            clear hK K
            (try simp only [List.getElem_toArray]); (try simp only [List.getElem_cons_succ]); (try simp only [List.getElem_cons_zero]); (try simp only [Act.put]); (try simp only [List.setIfInBounds_toArray]); (try simp only [List.set_cons_succ]); (try simp only [List.set_cons_zero])
            refine wpAnyH_ready (rs := [15]) (by kernel_rfl) (by simp) ?_
            refine AllReadyH.cons rfl (fun K hK => ?_) AllReadyH.nil
            go_simp
            go_at_call 44
            refine (specLater_any N4 v4 P4 L4 m4 d4 zs.length e4 X4 zs _ (hP4.up hV3) (hQ4.up hV3) (by omega) (by omega)).mono ?_
            rintro e w403 ⟨rfl, hb403⟩
            have hV4 := Up.then_ hV3 hb403
            go_wp2_with fail
            refine hK.out _ _ (by exact ⟨hV4, fun _ _ hb => hV4.cell hb⟩) (fun hHeld4 => ?_)
            clear hK K
            (try simp only [List.getElem_toArray]); (try simp only [List.getElem_cons_succ]); (try simp only [List.getElem_cons_zero]); (try simp only [Act.put]); (try simp only [List.setIfInBounds_toArray]); (try simp only [List.set_cons_succ]); (try simp only [List.set_cons_zero])
            refine wpAnyH_take (i := 16) (v := ?_) rfl (by kernel_rfl) (by kernel_rfl) (by kernel_rfl) (fun _ _ _ h => h) (Or.inl ⟨by rfl, ?_⟩) (by assumption) ?_
            rotate_left
            · (intro w' hSw; go_simp; try with_reducible rfl)
            (try simp only [List.getElem_toArray]); (try simp only [List.getElem_cons_succ]); (try simp only [List.getElem_cons_zero]); (try simp only [Act.put]); (try simp only [List.setIfInBounds_toArray]); (try simp only [List.set_cons_succ]); (try simp only [List.set_cons_zero])
            refine wpAnyH_take (i := 17) (v := ?_) rfl (by kernel_rfl) (by kernel_rfl) (by kernel_rfl) (fun _ _ _ h => h) (Or.inl ⟨by rfl, ?_⟩) (by assumption) ?_
            rotate_left
            · (intro w' hSw; go_simp; try with_reducible rfl)
            (try simp only [List.getElem_toArray]); (try simp only [List.getElem_cons_succ]); (try simp only [List.getElem_cons_zero]); (try simp only [Act.put]); (try simp only [List.setIfInBounds_toArray]); (try simp only [List.set_cons_succ]); (try simp only [List.set_cons_zero])
            refine wpAnyH_take (i := 18) (v := ?_) rfl (by kernel_rfl) (by kernel_rfl) (by kernel_rfl) (fun _ _ _ h => h) (Or.inl ⟨by rfl, ?_⟩) (by assumption) ?_
            rotate_left
            · (intro w' hSw; go_simp; try with_reducible rfl)
            (try simp only [List.getElem_toArray]); (try simp only [List.getElem_cons_succ]); (try simp only [List.getElem_cons_zero]); (try simp only [Act.put]); (try simp only [List.setIfInBounds_toArray]); (try simp only [List.set_cons_succ]); (try simp only [List.set_cons_zero])
            refine wpAnyH_take (i := 19) (v := ?_) rfl (by kernel_rfl) (by kernel_rfl) (by kernel_rfl) (fun _ _ _ h => h) (Or.inl ⟨by rfl, ?_⟩) (by assumption) ?_
            rotate_left
            · (intro w' hSw; go_simp; try with_reducible rfl)
            (try simp only [List.getElem_toArray]); (try simp only [List.getElem_cons_succ]); (try simp only [List.getElem_cons_zero]); (try simp only [Act.put]); (try simp only [List.setIfInBounds_toArray]); (try simp only [List.set_cons_succ]); (try simp only [List.set_cons_zero])
            refine wpAnyH_take (i := 21) (v := ?_) rfl (by kernel_rfl) (by kernel_rfl) (by kernel_rfl) (fun _ _ _ h => h) (Or.inl ⟨by rfl, ?_⟩) (by assumption) ?_
            rotate_left
            · (intro w' hSw; go_simp; try with_reducible rfl)
            (try simp only [List.getElem_toArray]); (try simp only [List.getElem_cons_succ]); (try simp only [List.getElem_cons_zero]); (try simp only [Act.put]); (try simp only [List.setIfInBounds_toArray]); (try simp only [List.set_cons_succ]); (try simp only [List.set_cons_zero])
            refine wpAnyH_ready (rs := [20]) (by kernel_rfl) (by simp) ?_
            refine AllReadyH.cons rfl (fun K hK => ?_) AllReadyH.nil
            go_simp
            go_at_call 34
            refine (HSI _ (hP5.up hV4)).mono ?_
            rintro e w404 ⟨A44, c44, rfl, hO44, hb404⟩
            have hV5 := Up.then_ hV4 hb404
            go_wp2_with fail
            refine hK.out _ _ (by exact ⟨hV5, fun _ _ hb => hV5.cell hb⟩) (fun hHeld5 => ?_)
            clear hK K
            (try simp only [List.getElem_toArray]); (try simp only [List.getElem_cons_succ]); (try simp only [List.getElem_cons_zero]); (try simp only [Act.put]); (try simp only [List.setIfInBounds_toArray]); (try simp only [List.set_cons_succ]); (try simp only [List.set_cons_zero])
            refine wpAnyH_ready (rs := [22]) (by kernel_rfl) (by simp) ?_
            refine AllReadyH.cons rfl (fun K hK => ?_) AllReadyH.nil
            go_simp
            go_at_call 45
            refine (HSS _ (hP5.up hV5)).mono ?_
            rintro e w405 ⟨A45, c45, rfl, hO45, hb405⟩
            have hV6 := Up.then_ hV5 hb405
            go_wp2_with fail
            refine hK.out _ _ (by exact ⟨hV6, fun _ _ hb => hV6.cell hb⟩) (fun hHeld6 => ?_)
            clear hK K
            (try simp only [List.getElem_toArray]); (try simp only [List.getElem_cons_succ]); (try simp only [List.getElem_cons_zero]); (try simp only [Act.put]); (try simp only [List.setIfInBounds_toArray]); (try simp only [List.set_cons_succ]); (try simp only [List.set_cons_zero])
            refine wpAnyH_ready (rs := [23]) (by kernel_rfl) (by simp) ?_
            refine AllReadyH.cons rfl (fun K hK => ?_) AllReadyH.nil
            go_simp
            go_at_call 9
            refine (sameInts_up (hO44.ri.up hb405) hO45.ri (by omega)).mono ?_
            rintro e w406 ⟨rfl, hb406⟩
            have hV7 := Up.then_ hV6 hb406
            go_wp2_with fail
            refine hK.out _ _ (by exact ⟨hV7, fun _ _ hb => hV7.cell hb⟩) (fun hHeld7 => ?_)
            clear hK K
            (try simp only [List.getElem_toArray]); (try simp only [List.getElem_cons_succ]); (try simp only [List.getElem_cons_zero]); (try simp only [Act.put]); (try simp only [List.setIfInBounds_toArray]); (try simp only [List.set_cons_succ]); (try simp only [List.set_cons_zero])
            refine wpAnyH_take (i := 24) (v := ?_) rfl (by kernel_rfl) (by kernel_rfl) (by kernel_rfl) (fun _ _ _ h => h) (Or.inl ⟨by rfl, ?_⟩) (by assumption) ?_
            rotate_left
            · (intro w' hSw; go_simp; try with_reducible rfl)
            (try simp only [List.getElem_toArray]); (try simp only [List.getElem_cons_succ]); (try simp only [List.getElem_cons_zero]); (try simp only [Act.put]); (try simp only [List.setIfInBounds_toArray]); (try simp only [List.set_cons_succ]); (try simp only [List.set_cons_zero])
            refine wpAnyH_take (i := 25) (v := ?_) rfl (by kernel_rfl) (by kernel_rfl) (by kernel_rfl) (fun _ _ _ h => h) (Or.inl ⟨by rfl, ?_⟩) (by assumption) ?_
            rotate_left
            · (intro w' hSw; go_simp; try with_reducible rfl)
            (try simp only [List.getElem_toArray]); (try simp only [List.getElem_cons_succ]); (try simp only [List.getElem_cons_zero]); (try simp only [Act.put]); (try simp only [List.setIfInBounds_toArray]); (try simp only [List.set_cons_succ]); (try simp only [List.set_cons_zero])
            refine wpAnyH_take (i := 26) (v := ?_) rfl (by kernel_rfl) (by kernel_rfl) (by kernel_rfl) (fun _ _ _ h => h) (Or.inl ⟨by rfl, ?_⟩) (by assumption) ?_
            rotate_left
            · (intro w' hSw; go_simp; try with_reducible rfl)
            (try simp only [List.getElem_toArray]); (try simp only [List.getElem_cons_succ]); (try simp only [List.getElem_cons_zero]); (try simp only [Act.put]); (try simp only [List.setIfInBounds_toArray]); (try simp only [List.set_cons_succ]); (try simp only [List.set_cons_zero])
            refine wpAnyH_take (i := 27) (v := ?_) rfl (by kernel_rfl) (by kernel_rfl) (by kernel_rfl) (fun _ _ _ h => h) (Or.inl ⟨by rfl, ?_⟩) (by assumption) ?_
            rotate_left
            · (intro w' hSw; go_simp; try with_reducible rfl)
            (try simp only [List.getElem_toArray]); (try simp only [List.getElem_cons_succ]); (try simp only [List.getElem_cons_zero]); (try simp only [Act.put]); (try simp only [List.setIfInBounds_toArray]); (try simp only [List.set_cons_succ]); (try simp only [List.set_cons_zero])
            refine wpAnyH_take (i := 29) (v := ?_) rfl (by kernel_rfl) (by kernel_rfl) (by kernel_rfl) (fun _ _ _ h => h) (Or.inl ⟨by rfl, ?_⟩) (by assumption) ?_
            rotate_left
            · (intro w' hSw; go_simp; try with_reducible rfl)
            (try simp only [List.getElem_toArray]); (try simp only [List.getElem_cons_succ]); (try simp only [List.getElem_cons_zero]); (try simp only [Act.put]); (try simp only [List.setIfInBounds_toArray]); (try simp only [List.set_cons_succ]); (try simp only [List.set_cons_zero])
            refine wpAnyH_take (i := 30) (v := ?_) rfl (by kernel_rfl) (by kernel_rfl) (by kernel_rfl) (fun _ _ _ h => h) (Or.inl ⟨by rfl, ?_⟩) (by assumption) ?_
            rotate_left
            · (intro w' hSw; go_simp; try with_reducible rfl)
            (try simp only [List.getElem_toArray]); (try simp only [List.getElem_cons_succ]); (try simp only [List.getElem_cons_zero]); (try simp only [Act.put]); (try simp only [List.setIfInBounds_toArray]); (try simp only [List.set_cons_succ]); (try simp only [List.set_cons_zero])
            refine wpAnyH_ready (rs := [28]) (by kernel_rfl) (by simp) ?_
            refine AllReadyH.cons rfl (fun K hK => ?_) AllReadyH.nil
            go_simp
            go_at_call 32
            refine (implIsLexElimination_any N6 s6 P6 m6 d6 X6 _ (hP6.up hV7) (by omega)).mono ?_
            rintro e w407 ⟨rfl, hb407⟩
            have hV8 := Up.then_ hV7 hb407
            go_wp2_with fail
            refine hK.out _ _ (by exact ⟨hV8, fun _ _ hb => hV8.cell hb⟩) (fun hHeld8 => ?_)
            clear hK K
            (try simp only [List.getElem_toArray]); (try simp only [List.getElem_cons_succ]); (try simp only [List.getElem_cons_zero]); (try simp only [Act.put]); (try simp only [List.setIfInBounds_toArray]); (try simp only [List.set_cons_succ]); (try simp only [List.set_cons_zero])
            refine wpAnyH_ready (rs := [31]) (by kernel_rfl) (by simp) ?_
            refine AllReadyH.cons rfl (fun K hK => ?_) AllReadyH.nil
            go_simp
            go_at_call 46
            refine (specIsLexElimination_any N6 s6 P6 m6 d6 X6 _ (hP6.up hV8) (by omega)).mono ?_
            rintro e w408 ⟨rfl, hb408⟩
            have hV9 := Up.then_ hV8 hb408
            go_wp2_with fail
            refine hK.out _ _ (by exact ⟨hV9, fun _ _ hb => hV9.cell hb⟩) (fun hHeld9 => ?_)
            clear hK K
            (try simp only [List.getElem_toArray]); (try simp only [List.getElem_cons_succ]); (try simp only [List.getElem_cons_zero]); (try simp only [Act.put]); (try simp only [List.setIfInBounds_toArray]); (try simp only [List.set_cons_succ]); (try simp only [List.set_cons_zero])
            refine wpAnyH_take (i := 32) (v := ?_) rfl (by kernel_rfl) (by kernel_rfl) (by kernel_rfl) (fun _ _ _ h => h) (Or.inl ⟨by rfl, ?_⟩) (by assumption) ?_
            rotate_left
            · (intro w' hSw; go_simp; try with_reducible rfl)
            (try simp only [List.getElem_toArray]); (try simp only [List.getElem_cons_succ]); (try simp only [List.getElem_cons_zero]); (try simp only [Act.put]); (try simp only [List.setIfInBounds_toArray]); (try simp only [List.set_cons_succ]); (try simp only [List.set_cons_zero])
            refine wpAnyH_take (i := 33) (v := ?_) rfl (by kernel_rfl) (by kernel_rfl) (by kernel_rfl) (fun _ _ _ h => h) (Or.inl ⟨by rfl, ?_⟩) (by assumption) ?_
            rotate_left
            · (intro w' hSw; go_simp; try with_reducible rfl)
            (try simp only [List.getElem_toArray]); (try simp only [List.getElem_cons_succ]); (try simp only [List.getElem_cons_zero]); (try simp only [Act.put]); (try simp only [List.setIfInBounds_toArray]); (try simp only [List.set_cons_succ]); (try simp only [List.set_cons_zero])
            refine wpAnyH_take (i := 34) (v := ?_) rfl (by kernel_rfl) (by kernel_rfl) (by kernel_rfl) (fun _ _ _ h => h) (Or.inl ⟨by rfl, ?_⟩) (by assumption) ?_
            rotate_left
            · (intro w' hSw; go_simp; try with_reducible rfl)
            (try simp only [List.getElem_toArray]); (try simp only [List.getElem_cons_succ]); (try simp only [List.getElem_cons_zero]); (try simp only [Act.put]); (try simp only [List.setIfInBounds_toArray]); (try simp only [List.set_cons_succ]); (try simp only [List.set_cons_zero])
            refine wpAnyH_done (by kernel_rfl) ?_ _
            have hU40 := hV9
            go_wp2
            go_ret
            exact ⟨rfl, Up.then_ hw37 hU40⟩
          · have HEL : ∀ w', RI w' P2 m2 X2 → RI w' L2 xs.length xs → Calls Try.prog 30 #[.agg #[.int .i64 N2, .slice P2 m2 d2], .slice L2 xs.length e2] w' (fun e w'' => e = .returned (.bool (decide (fl.length = 0))) ∧ Below w'.heap.size w' w'') := fun w' h h2 => by rw [← HEF.out rfl]; exact implIsElimination_any N2 P2 L2 m2 d2 xs.length e2 X2 xs w' h h2 (by omega) (by omega) hcap2.1
            clear HEF
            obtain ⟨bz, hbz⟩ : ∃ bz, bz = decide (fl.length = 0) := ⟨_, rfl⟩
            have hbz2 : ((fl.length : Int) == 0) = bz := by rw [hbz, Bool.eq_iff_iff, beq_iff_eq, decide_eq_true_eq]; omega
            rw [← hbz] at HEL
            clear hbz
            go_wp2_with fail
            refine (HEL _ hP2 hQ2).mono ?_
            rintro e w25 ⟨rfl, hb25⟩
            have hU25 : Up w24 w25 := Up.then_ (by go_grown) hb25
            replace hB := hB.up hU25
            replace hG2 := hG2.up hU25
            replace hP2 := hP2.up hU25
            replace hQ2 := hQ2.up hU25
            replace yhG2 := hG2.two
            replace lhG2 := hG2.lt
            have hw25 := Up.then_ hw24 hU25
            clear HEL hw24
            clear hP2 hQ2 hG2 yhG2 lhG2
            have hlow30 : ∀ ad, B = some ad → ad.block < w25.heap.size := fun ad e => by have := hlow ad e; have := hw25.size; omega
            go_wp2_with fail
            refine (drawIsElimination_any B n c bs _ hB hs hlow30).mono ?_
            rintro e w30 ⟨N3, P3, m3, d3, X3, L3, e3, ys, rfl, hX3, hle3, hL3, hl3, hb30⟩
            have hU30 : Up w25 w30 := Up.then_ (by go_grown) hb30
            replace hB := hB.up hU30
            have hw30 := Up.then_ hw25 hU30
            have hm3 : m3 ≤ 6 := by rw [← hX3.len]; exact hle3
            have hcap3 := hL3.cap
            have hG3 := Blk.new w30 26 #[.int .i64 N3, .slice P3 m3 d3]
            have hU31 : Up w30 (w30.alloc (.cells #[.int .i64 N3, .slice P3 m3 d3] 26)) := by go_grown
            have hw31 := Up.then_ hw30 hU31
            have hP3 := hX3.ri.up hU31
            have hQ3 := hL3.ri.up hU31
            replace hB := hB.up hU31
            obtain ⟨g3, hg3⟩ : ∃ g3, g3 = w30.heap.size := ⟨_, rfl⟩
            rw [← hg3] at hG3
            go_wp2_with fail
            rw [← hg3]
            generalize w30.alloc (.cells #[.int .i64 N3, .slice P3 m3 d3] 26) = w31 at hG3 hP3 hQ3 hB hw31 ⊢
            have hlow31 : ∀ ad, B = some ad → ad.block < w31.heap.size := fun ad e => by have := hlow ad e; have := hw31.size; omega
            clear hg3 hU30 hU31 hb30 hX3 hL3 hw30 hle3
            refine (drawLaterNeighbours_any B n c bs _ hB hs hlow31).mono ?_
            rintro e w32 ⟨N4, P4, m4, d4, X4, L4, e4, zs, v4, rfl, hX4, hle4, hL4, hl4, hv41, hv42, hb32⟩
            have hU32 : Up w31 w32 := hb32
            replace hB := hB.up hU32
            replace hG3 := hG3.up hU32
            replace hP3 := hP3.up hU32
            replace hQ3 := hQ3.up hU32
            have hw32 := Up.then_ hw31 hU32
            have hm4 : m4 ≤ 6 := by rw [← hX4.len]; exact hle4
            have hcap4 := hL4.cap
            have hG4 := Blk.new w32 26 #[.int .i64 N4, .slice P4 m4 d4]
            have hU33 : Up w32 (w32.alloc (.cells #[.int .i64 N4, .slice P4 m4 d4] 26)) := by go_grown
            have hw33 := Up.then_ hw32 hU33
            have hP4 := hX4.ri.up hU33
            have hQ4 := hL4.ri.up hU33
            replace hB := hB.up hU33
            replace hG3 := hG3.up hU33
            replace hP3 := hP3.up hU33
            replace hQ3 := hQ3.up hU33
            obtain ⟨g4, hg4⟩ : ∃ g4, g4 = w32.heap.size := ⟨_, rfl⟩
            rw [← hg4] at hG4
            go_wp2_with fail
            rw [← hg4]
            generalize w32.alloc (.cells #[.int .i64 N4, .slice P4 m4 d4] 26) = w33 at hG4 hP4 hQ4 hB hG3 hP3 hQ3 hw33 ⊢
            have hlow33 : ∀ ad, B = some ad → ad.block < w33.heap.size := fun ad e => by have := hlow ad e; have := hw33.size; omega
            clear hg4 hU32 hU33 hb32 hX4 hL4 hw32 hle4 hw31
            refine (drawSimplicialOf_any B n c bs _ hB hs hlow33).mono ?_
            rintro e w34 ⟨N5, P5, m5, d5, X5, rfl, hX5, hle5, hb34⟩
            have hU34 : Up w33 w34 := hb34
            replace hB := hB.up hU34
            replace hG3 := hG3.up hU34
            replace hP3 := hP3.up hU34
            replace hQ3 := hQ3.up hU34
            replace hG4 := hG4.up hU34
            replace hP4 := hP4.up hU34
            replace hQ4 := hQ4.up hU34
            have hw34 := Up.then_ hw33 hU34
            have hm5 : m5 ≤ 6 := by rw [← hX5.len]; exact hle5
            have hG5 := Blk.new w34 26 #[.int .i64 N5, .slice P5 m5 d5]
            have hU35 : Up w34 (w34.alloc (.cells #[.int .i64 N5, .slice P5 m5 d5] 26)) := by go_grown
            have hw35 := Up.then_ hw34 hU35
            have hP5 := hX5.ri.up hU35
            replace hB := hB.up hU35
            replace hG3 := hG3.up hU35
            replace hP3 := hP3.up hU35
            replace hQ3 := hQ3.up hU35
            replace hG4 := hG4.up hU35
            replace hP4 := hP4.up hU35
            replace hQ4 := hQ4.up hU35
            obtain ⟨g5, hg5⟩ : ∃ g5, g5 = w34.heap.size := ⟨_, rfl⟩
            rw [← hg5] at hG5
            go_wp2_with fail
            rw [← hg5]
            generalize w34.alloc (.cells #[.int .i64 N5, .slice P5 m5 d5] 26) = w35 at hG5 hP5 hB hG3 hP3 hQ3 hG4 hP4 hQ4 hw35 ⊢
            have hlow35 : ∀ ad, B = some ad → ad.block < w35.heap.size := fun ad e => by have := hlow ad e; have := hw35.size; omega
            clear hg5 hU34 hU35 hb34 hX5 hw34 hle5 hw33
            refine (drawIsLexElimination_any B n c bs _ hB hs hlow35).mono ?_
            rintro e w36 ⟨N6, P6, m6, d6, X6, s6, rfl, hX6, hle6, hs61, hs62, hb36⟩
            have hU36 : Up w35 w36 := hb36
            replace hB := hB.up hU36
            replace hG3 := hG3.up hU36
            replace hP3 := hP3.up hU36
            replace hQ3 := hQ3.up hU36
            replace hG4 := hG4.up hU36
            replace hP4 := hP4.up hU36
            replace hQ4 := hQ4.up hU36
            replace hG5 := hG5.up hU36
            replace hP5 := hP5.up hU36
            have hw36 := Up.then_ hw35 hU36
            have hm6' : m6 ≤ 6 := by rw [← hX6.len]; exact hle6
            have hG6 := Blk.new w36 26 #[.int .i64 N6, .slice P6 m6 d6]
            have hU37 : Up w36 (w36.alloc (.cells #[.int .i64 N6, .slice P6 m6 d6] 26)) := by go_grown
            have hw37 := Up.then_ hw36 hU37
            have hP6 := hX6.ri.up hU37
            replace hG3 := hG3.up hU37
            replace hP3 := hP3.up hU37
            replace hQ3 := hQ3.up hU37
            replace hG4 := hG4.up hU37
            replace hP4 := hP4.up hU37
            replace hQ4 := hQ4.up hU37
            replace hG5 := hG5.up hU37
            replace hP5 := hP5.up hU37
            obtain ⟨g6, hg6⟩ : ∃ g6, g6 = w36.heap.size := ⟨_, rfl⟩
            rw [← hg6] at hG6
            go_wp2_with fail
            rw [← hg6]
            generalize w36.alloc (.cells #[.int .i64 N6, .slice P6 m6 d6] 26) = w37 at hG6 hP6 hG3 hP3 hQ3 hG4 hP4 hQ4 hG5 hP5 hw37 ⊢
            clear hg6 hU36 hU37 hb36 hX6 hw36 hle6 hw35 hlow31 hlow33 hlow35 hB
            have yhG3 := hG3.two
            have lhG3 := hG3.lt
            have yhG4 := hG4.two
            have lhG4 := hG4.lt
            have yhG5 := hG5.two
            have lhG5 := hG5.lt
            have yhG6 := hG6.two
            have lhG6 := hG6.lt
            obtain ⟨s5, hs5⟩ : ∃ s5, s5 = simpL N5 X5 := ⟨_, rfl⟩
            have hs5l : s5.length ≤ 7 := by rw [hs5]; exact simpL_small N5 X5
            have HSI : ∀ w', RI w' P5 m5 X5 → Calls Try.prog 34 #[.agg #[.int .i64 N5, .slice P5 m5 d5]] w' (GivesI s5 w') := fun w' h => by rw [hs5]; exact implSimplicialOf_any N5 P5 m5 d5 X5 w' h (by omega)
            have HSS : ∀ w', RI w' P5 m5 X5 → Calls Try.prog 45 #[.agg #[.int .i64 N5, .slice P5 m5 d5]] w' (GivesI s5 w') := fun w' h => by rw [hs5]; exact specSimplicialOf_any N5 P5 m5 d5 X5 w' h (by omega)
            clear hs5
            have hV0 : Up w37 w37.drew := (Up.refl _).drew
            refine wp_region_held_drew (S := (fun w' => Up w37 w' ∧ (∀ b o, b < w37.heap.size → w'.cell? ⟨b, o, none⟩ = w37.cell? ⟨b, o, none⟩))) (by kernel_rfl) (by exact ⟨hV0, fun _ _ hb => hV0.cell hb⟩) (fun hHeld => ?_)
            refine wpAnyH_take (i := 0) (v := ?_) rfl (by kernel_rfl) (by kernel_rfl) (by kernel_rfl) (fun _ _ _ h => h) (Or.inl ⟨by rfl, ?_⟩) (by assumption) ?_
            rotate_left
            · (intro w' hSw; go_simp; try with_reducible rfl)
            (try simp only [List.getElem_toArray]); (try simp only [List.getElem_cons_succ]); (try simp only [List.getElem_cons_zero]); (try simp only [Act.put]); (try simp only [List.setIfInBounds_toArray]); (try simp only [List.set_cons_succ]); (try simp only [List.set_cons_zero])
            refine wpAnyH_take (i := 1) (v := ?_) rfl (by kernel_rfl) (by kernel_rfl) (by kernel_rfl) (fun _ _ _ h => h) (Or.inl ⟨by rfl, ?_⟩) (by assumption) ?_
            rotate_left
            · (intro w' hSw; go_simp; try with_reducible rfl)
            (try simp only [List.getElem_toArray]); (try simp only [List.getElem_cons_succ]); (try simp only [List.getElem_cons_zero]); (try simp only [Act.put]); (try simp only [List.setIfInBounds_toArray]); (try simp only [List.set_cons_succ]); (try simp only [List.set_cons_zero])
            refine wpAnyH_take (i := 3) (v := ?_) rfl (by kernel_rfl) (by kernel_rfl) (by kernel_rfl) (fun _ _ _ h => h) (Or.inl ⟨by rfl, ?_⟩) (by assumption) ?_
            rotate_left
            · (intro w' hSw; go_simp; try with_reducible rfl)
            (try simp only [List.getElem_toArray]); (try simp only [List.getElem_cons_succ]); (try simp only [List.getElem_cons_zero]); (try simp only [Act.put]); (try simp only [List.setIfInBounds_toArray]); (try simp only [List.set_cons_succ]); (try simp only [List.set_cons_zero])
            refine wpAnyH_take (i := 4) (v := ?_) rfl (by kernel_rfl) (by kernel_rfl) (by kernel_rfl) (fun _ _ _ h => h) (Or.inl ⟨by rfl, ?_⟩) (by assumption) ?_
            rotate_left
            · (intro w' hSw; go_simp; try with_reducible rfl)
            (try simp only [List.getElem_toArray]); (try simp only [List.getElem_cons_succ]); (try simp only [List.getElem_cons_zero]); (try simp only [Act.put]); (try simp only [List.setIfInBounds_toArray]); (try simp only [List.set_cons_succ]); (try simp only [List.set_cons_zero])
            refine wpAnyH_ready (rs := [2]) (by kernel_rfl) (by simp) ?_
            refine AllReadyH.cons rfl (fun K hK => ?_) AllReadyH.nil
            go_simp
            go_at_call 30
            refine (implIsElimination_any N3 P3 L3 m3 d3 ys.length e3 X3 ys _ (hP3.up hV0) (hQ3.up hV0) (by omega) (by omega) hcap3.1).mono ?_
            rintro e w400 ⟨rfl, hb400⟩
            have hV1 := Up.then_ hV0 hb400
            go_wp2_with fail
            refine hK.out _ _ (by exact ⟨hV1, fun _ _ hb => hV1.cell hb⟩) (fun hHeld1 => ?_)
            clear hK K
            (try simp only [List.getElem_toArray]); (try simp only [List.getElem_cons_succ]); (try simp only [List.getElem_cons_zero]); (try simp only [Act.put]); (try simp only [List.setIfInBounds_toArray]); (try simp only [List.set_cons_succ]); (try simp only [List.set_cons_zero])
            refine wpAnyH_ready (rs := [5]) (by kernel_rfl) (by simp) ?_
            refine AllReadyH.cons rfl (fun K hK => ?_) AllReadyH.nil
            go_simp
            go_at_call 42
            refine (specIsElimination_any N3 P3 L3 m3 d3 ys.length e3 X3 ys _ (hP3.up hV1) (hQ3.up hV1) (by omega) (by omega)).mono ?_
            rintro e w401 ⟨rfl, hb401⟩
            have hV2 := Up.then_ hV1 hb401
            go_wp2_with fail
            refine hK.out _ _ (by exact ⟨hV2, fun _ _ hb => hV2.cell hb⟩) (fun hHeld2 => ?_)
            clear hK K
            (try simp only [List.getElem_toArray]); (try simp only [List.getElem_cons_succ]); (try simp only [List.getElem_cons_zero]); (try simp only [Act.put]); (try simp only [List.setIfInBounds_toArray]); (try simp only [List.set_cons_succ]); (try simp only [List.set_cons_zero])
            refine wpAnyH_take (i := 6) (v := ?_) rfl (by kernel_rfl) (by kernel_rfl) (by kernel_rfl) (fun _ _ _ h => h) (Or.inl ⟨by rfl, ?_⟩) (by assumption) ?_
            rotate_left
            · (intro w' hSw; go_simp; try with_reducible rfl)
            (try simp only [List.getElem_toArray]); (try simp only [List.getElem_cons_succ]); (try simp only [List.getElem_cons_zero]); (try simp only [Act.put]); (try simp only [List.setIfInBounds_toArray]); (try simp only [List.set_cons_succ]); (try simp only [List.set_cons_zero])
            refine wpAnyH_take (i := 7) (v := ?_) rfl (by kernel_rfl) (by kernel_rfl) (by kernel_rfl) (fun _ _ _ h => h) (Or.inl ⟨by rfl, ?_⟩) (by assumption) ?_
            rotate_left
            · (intro w' hSw; go_simp; try with_reducible rfl)
            (try simp only [List.getElem_toArray]); (try simp only [List.getElem_cons_succ]); (try simp only [List.getElem_cons_zero]); (try simp only [Act.put]); (try simp only [List.setIfInBounds_toArray]); (try simp only [List.set_cons_succ]); (try simp only [List.set_cons_zero])
            refine wpAnyH_take (i := 8) (v := ?_) rfl (by kernel_rfl) (by kernel_rfl) (by kernel_rfl) (fun _ _ _ h => h) (Or.inl ⟨by rfl, ?_⟩) (by assumption) ?_
            rotate_left
            · (intro w' hSw; go_simp; try with_reducible rfl)
            (try simp only [List.getElem_toArray]); (try simp only [List.getElem_cons_succ]); (try simp only [List.getElem_cons_zero]); (try simp only [Act.put]); (try simp only [List.setIfInBounds_toArray]); (try simp only [List.set_cons_succ]); (try simp only [List.set_cons_zero])
            refine wpAnyH_take (i := 9) (v := ?_) rfl (by kernel_rfl) (by kernel_rfl) (by kernel_rfl) (fun _ _ _ h => h) (Or.inl ⟨by rfl, ?_⟩) (by assumption) ?_
            rotate_left
            · (intro w' hSw; go_simp; try with_reducible rfl)
            (try simp only [List.getElem_toArray]); (try simp only [List.getElem_cons_succ]); (try simp only [List.getElem_cons_zero]); (try simp only [Act.put]); (try simp only [List.setIfInBounds_toArray]); (try simp only [List.set_cons_succ]); (try simp only [List.set_cons_zero])
            refine wpAnyH_take (i := 10) (v := ?_) rfl (by kernel_rfl) (by kernel_rfl) (by kernel_rfl) (fun _ _ _ h => h) (Or.inl ⟨by rfl, ?_⟩) (by assumption) ?_
            rotate_left
            · (intro w' hSw; go_simp; try with_reducible rfl)
            (try simp only [List.getElem_toArray]); (try simp only [List.getElem_cons_succ]); (try simp only [List.getElem_cons_zero]); (try simp only [Act.put]); (try simp only [List.setIfInBounds_toArray]); (try simp only [List.set_cons_succ]); (try simp only [List.set_cons_zero])
            refine wpAnyH_take (i := 12) (v := ?_) rfl (by kernel_rfl) (by kernel_rfl) (by kernel_rfl) (fun _ _ _ h => h) (Or.inl ⟨by rfl, ?_⟩) (by assumption) ?_
            rotate_left
            · (intro w' hSw; go_simp; try with_reducible rfl)
            (try simp only [List.getElem_toArray]); (try simp only [List.getElem_cons_succ]); (try simp only [List.getElem_cons_zero]); (try simp only [Act.put]); (try simp only [List.setIfInBounds_toArray]); (try simp only [List.set_cons_succ]); (try simp only [List.set_cons_zero])
            refine wpAnyH_take (i := 13) (v := ?_) rfl (by kernel_rfl) (by kernel_rfl) (by kernel_rfl) (fun _ _ _ h => h) (Or.inl ⟨by rfl, ?_⟩) (by assumption) ?_
            rotate_left
            · (intro w' hSw; go_simp; try with_reducible rfl)
            (try simp only [List.getElem_toArray]); (try simp only [List.getElem_cons_succ]); (try simp only [List.getElem_cons_zero]); (try simp only [Act.put]); (try simp only [List.setIfInBounds_toArray]); (try simp only [List.set_cons_succ]); (try simp only [List.set_cons_zero])
            refine wpAnyH_take (i := 14) (v := ?_) rfl (by kernel_rfl) (by kernel_rfl) (by kernel_rfl) (fun _ _ _ h => h) (Or.inl ⟨by rfl, ?_⟩) (by assumption) ?_
            rotate_left
            · (intro w' hSw; go_simp; try with_reducible rfl)
            (try simp only [List.getElem_toArray]); (try simp only [List.getElem_cons_succ]); (try simp only [List.getElem_cons_zero]); (try simp only [Act.put]); (try simp only [List.setIfInBounds_toArray]); (try simp only [List.set_cons_succ]); (try simp only [List.set_cons_zero])
            refine wpAnyH_ready (rs := [11]) (by kernel_rfl) (by simp) ?_
            refine AllReadyH.cons rfl (fun K hK => ?_) AllReadyH.nil
            go_simp
            go_at_call 43
            refine (implLater_any N4 v4 P4 L4 m4 d4 zs.length e4 X4 zs _ (hP4.up hV2) (hQ4.up hV2) (by omega) (by omega) hcap4.1).mono ?_
            rintro e w402 ⟨rfl, hb402⟩
            have hV3 := Up.then_ hV2 hb402
            go_wp2_with fail
            refine hK.out _ _ (by exact ⟨hV3, fun _ _ hb => hV3.cell hb⟩) (fun hHeld3 => ?_)
            clear hK K
            (try simp only [List.getElem_toArray]); (try simp only [List.getElem_cons_succ]); (try simp only [List.getElem_cons_zero]); (try simp only [Act.put]); (try simp only [List.setIfInBounds_toArray]); (try simp only [List.set_cons_succ]); (try simp only [List.set_cons_zero])
            refine wpAnyH_ready (rs := [15]) (by kernel_rfl) (by simp) ?_
            refine AllReadyH.cons rfl (fun K hK => ?_) AllReadyH.nil
            go_simp
            go_at_call 44
            refine (specLater_any N4 v4 P4 L4 m4 d4 zs.length e4 X4 zs _ (hP4.up hV3) (hQ4.up hV3) (by omega) (by omega)).mono ?_
            rintro e w403 ⟨rfl, hb403⟩
            have hV4 := Up.then_ hV3 hb403
            go_wp2_with fail
            refine hK.out _ _ (by exact ⟨hV4, fun _ _ hb => hV4.cell hb⟩) (fun hHeld4 => ?_)
            clear hK K
            (try simp only [List.getElem_toArray]); (try simp only [List.getElem_cons_succ]); (try simp only [List.getElem_cons_zero]); (try simp only [Act.put]); (try simp only [List.setIfInBounds_toArray]); (try simp only [List.set_cons_succ]); (try simp only [List.set_cons_zero])
            refine wpAnyH_take (i := 16) (v := ?_) rfl (by kernel_rfl) (by kernel_rfl) (by kernel_rfl) (fun _ _ _ h => h) (Or.inl ⟨by rfl, ?_⟩) (by assumption) ?_
            rotate_left
            · (intro w' hSw; go_simp; try with_reducible rfl)
            (try simp only [List.getElem_toArray]); (try simp only [List.getElem_cons_succ]); (try simp only [List.getElem_cons_zero]); (try simp only [Act.put]); (try simp only [List.setIfInBounds_toArray]); (try simp only [List.set_cons_succ]); (try simp only [List.set_cons_zero])
            refine wpAnyH_take (i := 17) (v := ?_) rfl (by kernel_rfl) (by kernel_rfl) (by kernel_rfl) (fun _ _ _ h => h) (Or.inl ⟨by rfl, ?_⟩) (by assumption) ?_
            rotate_left
            · (intro w' hSw; go_simp; try with_reducible rfl)
            (try simp only [List.getElem_toArray]); (try simp only [List.getElem_cons_succ]); (try simp only [List.getElem_cons_zero]); (try simp only [Act.put]); (try simp only [List.setIfInBounds_toArray]); (try simp only [List.set_cons_succ]); (try simp only [List.set_cons_zero])
            refine wpAnyH_take (i := 18) (v := ?_) rfl (by kernel_rfl) (by kernel_rfl) (by kernel_rfl) (fun _ _ _ h => h) (Or.inl ⟨by rfl, ?_⟩) (by assumption) ?_
            rotate_left
            · (intro w' hSw; go_simp; try with_reducible rfl)
            (try simp only [List.getElem_toArray]); (try simp only [List.getElem_cons_succ]); (try simp only [List.getElem_cons_zero]); (try simp only [Act.put]); (try simp only [List.setIfInBounds_toArray]); (try simp only [List.set_cons_succ]); (try simp only [List.set_cons_zero])
            refine wpAnyH_take (i := 19) (v := ?_) rfl (by kernel_rfl) (by kernel_rfl) (by kernel_rfl) (fun _ _ _ h => h) (Or.inl ⟨by rfl, ?_⟩) (by assumption) ?_
            rotate_left
            · (intro w' hSw; go_simp; try with_reducible rfl)
            (try simp only [List.getElem_toArray]); (try simp only [List.getElem_cons_succ]); (try simp only [List.getElem_cons_zero]); (try simp only [Act.put]); (try simp only [List.setIfInBounds_toArray]); (try simp only [List.set_cons_succ]); (try simp only [List.set_cons_zero])
            refine wpAnyH_take (i := 21) (v := ?_) rfl (by kernel_rfl) (by kernel_rfl) (by kernel_rfl) (fun _ _ _ h => h) (Or.inl ⟨by rfl, ?_⟩) (by assumption) ?_
            rotate_left
            · (intro w' hSw; go_simp; try with_reducible rfl)
            (try simp only [List.getElem_toArray]); (try simp only [List.getElem_cons_succ]); (try simp only [List.getElem_cons_zero]); (try simp only [Act.put]); (try simp only [List.setIfInBounds_toArray]); (try simp only [List.set_cons_succ]); (try simp only [List.set_cons_zero])
            refine wpAnyH_ready (rs := [20]) (by kernel_rfl) (by simp) ?_
            refine AllReadyH.cons rfl (fun K hK => ?_) AllReadyH.nil
            go_simp
            go_at_call 34
            refine (HSI _ (hP5.up hV4)).mono ?_
            rintro e w404 ⟨A44, c44, rfl, hO44, hb404⟩
            have hV5 := Up.then_ hV4 hb404
            go_wp2_with fail
            refine hK.out _ _ (by exact ⟨hV5, fun _ _ hb => hV5.cell hb⟩) (fun hHeld5 => ?_)
            clear hK K
            (try simp only [List.getElem_toArray]); (try simp only [List.getElem_cons_succ]); (try simp only [List.getElem_cons_zero]); (try simp only [Act.put]); (try simp only [List.setIfInBounds_toArray]); (try simp only [List.set_cons_succ]); (try simp only [List.set_cons_zero])
            refine wpAnyH_ready (rs := [22]) (by kernel_rfl) (by simp) ?_
            refine AllReadyH.cons rfl (fun K hK => ?_) AllReadyH.nil
            go_simp
            go_at_call 45
            refine (HSS _ (hP5.up hV5)).mono ?_
            rintro e w405 ⟨A45, c45, rfl, hO45, hb405⟩
            have hV6 := Up.then_ hV5 hb405
            go_wp2_with fail
            refine hK.out _ _ (by exact ⟨hV6, fun _ _ hb => hV6.cell hb⟩) (fun hHeld6 => ?_)
            clear hK K
            (try simp only [List.getElem_toArray]); (try simp only [List.getElem_cons_succ]); (try simp only [List.getElem_cons_zero]); (try simp only [Act.put]); (try simp only [List.setIfInBounds_toArray]); (try simp only [List.set_cons_succ]); (try simp only [List.set_cons_zero])
            refine wpAnyH_ready (rs := [23]) (by kernel_rfl) (by simp) ?_
            refine AllReadyH.cons rfl (fun K hK => ?_) AllReadyH.nil
            go_simp
            go_at_call 9
            refine (sameInts_up (hO44.ri.up hb405) hO45.ri (by omega)).mono ?_
            rintro e w406 ⟨rfl, hb406⟩
            have hV7 := Up.then_ hV6 hb406
            go_wp2_with fail
            refine hK.out _ _ (by exact ⟨hV7, fun _ _ hb => hV7.cell hb⟩) (fun hHeld7 => ?_)
            clear hK K
            (try simp only [List.getElem_toArray]); (try simp only [List.getElem_cons_succ]); (try simp only [List.getElem_cons_zero]); (try simp only [Act.put]); (try simp only [List.setIfInBounds_toArray]); (try simp only [List.set_cons_succ]); (try simp only [List.set_cons_zero])
            refine wpAnyH_take (i := 24) (v := ?_) rfl (by kernel_rfl) (by kernel_rfl) (by kernel_rfl) (fun _ _ _ h => h) (Or.inl ⟨by rfl, ?_⟩) (by assumption) ?_
            rotate_left
            · (intro w' hSw; go_simp; try with_reducible rfl)
            (try simp only [List.getElem_toArray]); (try simp only [List.getElem_cons_succ]); (try simp only [List.getElem_cons_zero]); (try simp only [Act.put]); (try simp only [List.setIfInBounds_toArray]); (try simp only [List.set_cons_succ]); (try simp only [List.set_cons_zero])
            refine wpAnyH_take (i := 25) (v := ?_) rfl (by kernel_rfl) (by kernel_rfl) (by kernel_rfl) (fun _ _ _ h => h) (Or.inl ⟨by rfl, ?_⟩) (by assumption) ?_
            rotate_left
            · (intro w' hSw; go_simp; try with_reducible rfl)
            (try simp only [List.getElem_toArray]); (try simp only [List.getElem_cons_succ]); (try simp only [List.getElem_cons_zero]); (try simp only [Act.put]); (try simp only [List.setIfInBounds_toArray]); (try simp only [List.set_cons_succ]); (try simp only [List.set_cons_zero])
            refine wpAnyH_take (i := 26) (v := ?_) rfl (by kernel_rfl) (by kernel_rfl) (by kernel_rfl) (fun _ _ _ h => h) (Or.inl ⟨by rfl, ?_⟩) (by assumption) ?_
            rotate_left
            · (intro w' hSw; go_simp; try with_reducible rfl)
            (try simp only [List.getElem_toArray]); (try simp only [List.getElem_cons_succ]); (try simp only [List.getElem_cons_zero]); (try simp only [Act.put]); (try simp only [List.setIfInBounds_toArray]); (try simp only [List.set_cons_succ]); (try simp only [List.set_cons_zero])
            refine wpAnyH_take (i := 27) (v := ?_) rfl (by kernel_rfl) (by kernel_rfl) (by kernel_rfl) (fun _ _ _ h => h) (Or.inl ⟨by rfl, ?_⟩) (by assumption) ?_
            rotate_left
            · (intro w' hSw; go_simp; try with_reducible rfl)
            (try simp only [List.getElem_toArray]); (try simp only [List.getElem_cons_succ]); (try simp only [List.getElem_cons_zero]); (try simp only [Act.put]); (try simp only [List.setIfInBounds_toArray]); (try simp only [List.set_cons_succ]); (try simp only [List.set_cons_zero])
            refine wpAnyH_take (i := 29) (v := ?_) rfl (by kernel_rfl) (by kernel_rfl) (by kernel_rfl) (fun _ _ _ h => h) (Or.inl ⟨by rfl, ?_⟩) (by assumption) ?_
            rotate_left
            · (intro w' hSw; go_simp; try with_reducible rfl)
            (try simp only [List.getElem_toArray]); (try simp only [List.getElem_cons_succ]); (try simp only [List.getElem_cons_zero]); (try simp only [Act.put]); (try simp only [List.setIfInBounds_toArray]); (try simp only [List.set_cons_succ]); (try simp only [List.set_cons_zero])
            refine wpAnyH_take (i := 30) (v := ?_) rfl (by kernel_rfl) (by kernel_rfl) (by kernel_rfl) (fun _ _ _ h => h) (Or.inl ⟨by rfl, ?_⟩) (by assumption) ?_
            rotate_left
            · (intro w' hSw; go_simp; try with_reducible rfl)
            (try simp only [List.getElem_toArray]); (try simp only [List.getElem_cons_succ]); (try simp only [List.getElem_cons_zero]); (try simp only [Act.put]); (try simp only [List.setIfInBounds_toArray]); (try simp only [List.set_cons_succ]); (try simp only [List.set_cons_zero])
            refine wpAnyH_ready (rs := [28]) (by kernel_rfl) (by simp) ?_
            refine AllReadyH.cons rfl (fun K hK => ?_) AllReadyH.nil
            go_simp
            go_at_call 32
            refine (implIsLexElimination_any N6 s6 P6 m6 d6 X6 _ (hP6.up hV7) (by omega)).mono ?_
            rintro e w407 ⟨rfl, hb407⟩
            have hV8 := Up.then_ hV7 hb407
            go_wp2_with fail
            refine hK.out _ _ (by exact ⟨hV8, fun _ _ hb => hV8.cell hb⟩) (fun hHeld8 => ?_)
            clear hK K
            (try simp only [List.getElem_toArray]); (try simp only [List.getElem_cons_succ]); (try simp only [List.getElem_cons_zero]); (try simp only [Act.put]); (try simp only [List.setIfInBounds_toArray]); (try simp only [List.set_cons_succ]); (try simp only [List.set_cons_zero])
            refine wpAnyH_ready (rs := [31]) (by kernel_rfl) (by simp) ?_
            refine AllReadyH.cons rfl (fun K hK => ?_) AllReadyH.nil
            go_simp
            go_at_call 46
            refine (specIsLexElimination_any N6 s6 P6 m6 d6 X6 _ (hP6.up hV8) (by omega)).mono ?_
            rintro e w408 ⟨rfl, hb408⟩
            have hV9 := Up.then_ hV8 hb408
            go_wp2_with fail
            refine hK.out _ _ (by exact ⟨hV9, fun _ _ hb => hV9.cell hb⟩) (fun hHeld9 => ?_)
            clear hK K
            (try simp only [List.getElem_toArray]); (try simp only [List.getElem_cons_succ]); (try simp only [List.getElem_cons_zero]); (try simp only [Act.put]); (try simp only [List.setIfInBounds_toArray]); (try simp only [List.set_cons_succ]); (try simp only [List.set_cons_zero])
            refine wpAnyH_take (i := 32) (v := ?_) rfl (by kernel_rfl) (by kernel_rfl) (by kernel_rfl) (fun _ _ _ h => h) (Or.inl ⟨by rfl, ?_⟩) (by assumption) ?_
            rotate_left
            · (intro w' hSw; go_simp; try with_reducible rfl)
            (try simp only [List.getElem_toArray]); (try simp only [List.getElem_cons_succ]); (try simp only [List.getElem_cons_zero]); (try simp only [Act.put]); (try simp only [List.setIfInBounds_toArray]); (try simp only [List.set_cons_succ]); (try simp only [List.set_cons_zero])
            refine wpAnyH_take (i := 33) (v := ?_) rfl (by kernel_rfl) (by kernel_rfl) (by kernel_rfl) (fun _ _ _ h => h) (Or.inl ⟨by rfl, ?_⟩) (by assumption) ?_
            rotate_left
            · (intro w' hSw; go_simp; try with_reducible rfl)
            (try simp only [List.getElem_toArray]); (try simp only [List.getElem_cons_succ]); (try simp only [List.getElem_cons_zero]); (try simp only [Act.put]); (try simp only [List.setIfInBounds_toArray]); (try simp only [List.set_cons_succ]); (try simp only [List.set_cons_zero])
            refine wpAnyH_take (i := 34) (v := ?_) rfl (by kernel_rfl) (by kernel_rfl) (by kernel_rfl) (fun _ _ _ h => h) (Or.inl ⟨by rfl, ?_⟩) (by assumption) ?_
            rotate_left
            · (intro w' hSw; go_simp; try with_reducible rfl)
            (try simp only [List.getElem_toArray]); (try simp only [List.getElem_cons_succ]); (try simp only [List.getElem_cons_zero]); (try simp only [Act.put]); (try simp only [List.setIfInBounds_toArray]); (try simp only [List.set_cons_succ]); (try simp only [List.set_cons_zero])
            refine wpAnyH_done (by kernel_rfl) ?_ _
            have hU40 := hV9
            go_wp2
            go_ret
            exact ⟨rfl, Up.then_ hw37 hU40⟩
    · have hiff := HIFF.out
      cases ig
      · cases hiff
      · cases ho
        · clear hiff
          obtain ⟨hN1, hIO, hIE, hF0, hS0, hLE⟩ := HFA.out rfl
          clear HIFF HFA
          have hcap5 := hO5.cap
          have HEL : ∀ w', RI w' A m X → RI w' A5 el.length el → Calls Try.prog 30 #[.agg #[.int .i64 N, .slice A m d], .slice A5 el.length c5] w' (fun e w'' => e = .returned (.bool true) ∧ Below w'.heap.size w' w'') := fun w' h h2 => by rw [← hIE]; exact implIsElimination_any N A A5 m d el.length c5 X el w' h h2 (by omega) (by omega) hcap5.1
          have HFI : ∀ w', RI w' A m X → RI w' A5 el.length el → Calls Try.prog 31 #[.agg #[.int .i64 N, .slice A m d], .slice A5 el.length c5] w' (GivesRB ((fillOf N X el).map row2) true w') := fun w' h h2 => by rw [← hIO]; exact implFillOf_any N A A5 m d el.length c5 X el w' h h2 (by omega) (by omega) hcap5.1
          have HLX : ∀ (z : Nat) w', RI w' A m X → Calls Try.prog 32 #[.agg #[.int .i64 N, .slice A m d], .int .i64 ((z : Int).tmod N)] w' (fun e w'' => e = .returned (.bool true) ∧ Below w'.heap.size w' w'') := fun z w' h => by rw [← hLE ((z : Int).tmod N) (Int.tmod_nonneg _ (by omega)) (Int.tmod_lt_of_pos _ (by omega))]; exact implIsLexElimination_any N _ A m d X w' h (by omega)
          obtain ⟨sl, hsl⟩ : ∃ sl, sl = simpL N X := ⟨_, rfl⟩
          have HSI : ∀ w', RI w' A m X → Calls Try.prog 34 #[.agg #[.int .i64 N, .slice A m d]] w' (GivesI sl w') := fun w' h => by rw [hsl]; exact implSimplicialOf_any N A m d X w' h (by omega)
          have hsl0 : 0 < sl.length := by rw [hsl]; exact List.length_pos_iff.2 hS0
          have hslb : ((sl.length : Int) == 0) = false := by rw [beq_eq_false_iff_ne]; omega
          have HF0 := Lib.hid hF0
          clear hsl hIO hIE hLE hS0 hF0
          go_wp2_with fail
          refine (HEL _ hX hO5.ri).mono ?_
          rintro e w10 ⟨rfl, hb10⟩
          have hU10 : Up w9 w10 := Up.then_ (by go_grown) hb10
          replace hX := hX.up hU10
          replace hB := hB.up hU10
          replace hG := hG.up hU10
          replace hO5 := hO5.up hU10
          replace yhG := hG.two
          replace lhG := hG.lt
          have hw10 := Up.then_ hw9 hU10
          go_wp2_with fail
          refine (HFI _ hX hO5.ri).mono ?_
          rintro e w11 ⟨A11, c11, ps, hps, rfl, hO11, hb11⟩
          have hU11 : Up w10 w11 := Up.then_ (by go_grown) hb11
          replace hX := hX.up hU11
          replace hB := hB.up hU11
          replace hG := hG.up hU11
          replace hO5 := hO5.up hU11
          replace yhG := hG.two
          replace lhG := hG.lt
          have hw11 := Up.then_ hw10 hU11
          have hpl : ps.length = 0 := by
            have h1 := congrArg List.length hps
            rw [List.length_map, List.length_map, HF0.out] at h1
            exact h1
          obtain rfl : ps = [] := List.eq_nil_of_length_eq_zero hpl
          simp only [List.length_nil]
          clear hps hO11 HF0 hpl HEL HFI hU10 hU11 hb10 hb11 hw9 hw10 hO5
          go_wp2_with fail
          have hNne : ¬ (N = 0) := by omega
          have hV0 : Up w11 w11.drew := (Up.refl _).drew
          refine wp_region_held_drew (S := (fun w' => Up w11 w' ∧ (∀ b o, b < w11.heap.size → w'.cell? ⟨b, o, none⟩ = w11.cell? ⟨b, o, none⟩))) (by kernel_rfl) (by exact ⟨hV0, fun _ _ hb => hV0.cell hb⟩) (fun hHeld => ?_)
          refine wpAnyH_take (i := 0) (v := ?_) rfl (by kernel_rfl) (by kernel_rfl) (by kernel_rfl) (fun _ _ _ h => h) (Or.inl ⟨by rfl, ?_⟩) (by assumption) ?_
          rotate_left
          · (intro w' hSw; go_simp; try with_reducible rfl)
          (try simp only [List.getElem_toArray]); (try simp only [List.getElem_cons_succ]); (try simp only [List.getElem_cons_zero]); (try simp only [Act.put]); (try simp only [List.setIfInBounds_toArray]); (try simp only [List.set_cons_succ]); (try simp only [List.set_cons_zero])
          refine wpAnyH_take (i := 1) (v := ?_) rfl (by kernel_rfl) (by kernel_rfl) (by kernel_rfl) (fun _ _ _ h => h) (Or.inl ⟨by rfl, ?_⟩) (by assumption) ?_
          rotate_left
          · (intro w' hSw; go_simp; try with_reducible rfl)
          (try simp only [List.getElem_toArray]); (try simp only [List.getElem_cons_succ]); (try simp only [List.getElem_cons_zero]); (try simp only [Act.put]); (try simp only [List.setIfInBounds_toArray]); (try simp only [List.set_cons_succ]); (try simp only [List.set_cons_zero])
          refine wpAnyH_take (i := 2) (v := ?_) rfl (by kernel_rfl) (by kernel_rfl) (by kernel_rfl) (fun _ _ _ h => h) (Or.inl ⟨by rfl, ?_⟩) (by assumption) ?_
          rotate_left
          · (intro w' hSw; go_simp; try with_reducible rfl)
          (try simp only [List.getElem_toArray]); (try simp only [List.getElem_cons_succ]); (try simp only [List.getElem_cons_zero]); (try simp only [Act.put]); (try simp only [List.setIfInBounds_toArray]); (try simp only [List.set_cons_succ]); (try simp only [List.set_cons_zero])
          refine wpAnyH_take (i := 3) (v := ?_) rfl (by kernel_rfl) (by kernel_rfl) (by kernel_rfl) (fun _ _ _ h => h) (Or.inl ⟨by rfl, ?_⟩) (by assumption) ?_
          rotate_left
          · (intro w' hSw; go_simp; try with_reducible rfl)
          (try simp only [List.getElem_toArray]); (try simp only [List.getElem_cons_succ]); (try simp only [List.getElem_cons_zero]); (try simp only [Act.put]); (try simp only [List.setIfInBounds_toArray]); (try simp only [List.set_cons_succ]); (try simp only [List.set_cons_zero])
          refine wpAnyH_take (i := 4) (v := ?_) rfl (by kernel_rfl) (by kernel_rfl) (by kernel_rfl) (fun _ _ _ h => h) (Or.inl ⟨by rfl, ?_⟩) (by assumption) ?_
          rotate_left
          · (intro w' hSw; go_simp; try with_reducible rfl)
          (try simp only [List.getElem_toArray]); (try simp only [List.getElem_cons_succ]); (try simp only [List.getElem_cons_zero]); (try simp only [Act.put]); (try simp only [List.setIfInBounds_toArray]); (try simp only [List.set_cons_succ]); (try simp only [List.set_cons_zero])
          refine wpAnyH_take (i := 5) (v := ?_) rfl (by kernel_rfl) (by kernel_rfl) (by kernel_rfl) (fun _ _ _ h => h) (Or.inl ⟨by rfl, ?_⟩) (by assumption) ?_
          rotate_left
          · (intro w' hSw; go_simp; try with_reducible rfl)
          (try simp only [List.getElem_toArray]); (try simp only [List.getElem_cons_succ]); (try simp only [List.getElem_cons_zero]); (try simp only [Act.put]); (try simp only [List.setIfInBounds_toArray]); (try simp only [List.set_cons_succ]); (try simp only [List.set_cons_zero])
          refine wpAnyH_take (i := 6) (v := ?_) rfl (by kernel_rfl) (by kernel_rfl) (by kernel_rfl) (fun _ _ _ h => h) (Or.inl ⟨by rfl, ?_⟩) (by assumption) ?_
          rotate_left
          · (intro w' hSw; go_simp; try with_reducible rfl)
          (try simp only [List.getElem_toArray]); (try simp only [List.getElem_cons_succ]); (try simp only [List.getElem_cons_zero]); (try simp only [Act.put]); (try simp only [List.setIfInBounds_toArray]); (try simp only [List.set_cons_succ]); (try simp only [List.set_cons_zero])
          refine wpAnyH_take (i := 7) (v := ?_) rfl (by kernel_rfl) (by kernel_rfl) (by kernel_rfl) (fun _ _ _ h => h) (Or.inl ⟨by rfl, ?_⟩) (by assumption) ?_
          rotate_left
          · (intro w' hSw; go_simp; try with_reducible rfl)
          (try simp only [List.getElem_toArray]); (try simp only [List.getElem_cons_succ]); (try simp only [List.getElem_cons_zero]); (try simp only [Act.put]); (try simp only [List.setIfInBounds_toArray]); (try simp only [List.set_cons_succ]); (try simp only [List.set_cons_zero])
          refine wpAnyH_take (i := 8) (v := ?_) rfl (by kernel_rfl) (by kernel_rfl) (by kernel_rfl) (fun _ _ _ h => h) (Or.inl ⟨by rfl, ?_⟩) (by assumption) ?_
          rotate_left
          · (intro w' hSw; go_simp; try with_reducible rfl)
          (try simp only [List.getElem_toArray]); (try simp only [List.getElem_cons_succ]); (try simp only [List.getElem_cons_zero]); (try simp only [Act.put]); (try simp only [List.setIfInBounds_toArray]); (try simp only [List.set_cons_succ]); (try simp only [List.set_cons_zero])
          refine wpAnyH_take (i := 9) (v := ?_) rfl (by kernel_rfl) (by kernel_rfl) (by kernel_rfl) (fun _ _ _ h => h) (Or.inl ⟨by rfl, ?_⟩) (by assumption) ?_
          rotate_left
          · (intro w' hSw; go_simp; try with_reducible rfl)
          (try simp only [List.getElem_toArray]); (try simp only [List.getElem_cons_succ]); (try simp only [List.getElem_cons_zero]); (try simp only [Act.put]); (try simp only [List.setIfInBounds_toArray]); (try simp only [List.set_cons_succ]); (try simp only [List.set_cons_zero])
          refine wpAnyH_take (i := 11) (v := ?_) rfl (by kernel_rfl) (by kernel_rfl) (by kernel_rfl) (fun _ _ _ h => h) (Or.inl ⟨by rfl, ?_⟩) (by assumption) ?_
          rotate_left
          · (intro w' hSw; go_simp; try with_reducible rfl)
          (try simp only [List.getElem_toArray]); (try simp only [List.getElem_cons_succ]); (try simp only [List.getElem_cons_zero]); (try simp only [Act.put]); (try simp only [List.setIfInBounds_toArray]); (try simp only [List.set_cons_succ]); (try simp only [List.set_cons_zero])
          refine wpAnyH_take (i := 12) (v := ?_) rfl (by kernel_rfl) (by kernel_rfl) (by kernel_rfl) (fun _ _ _ h => h) (Or.inl ⟨by rfl, ?_⟩) (by assumption) ?_
          rotate_left
          · (intro w' hSw; go_simp; try with_reducible rfl)
          (try simp only [List.getElem_toArray]); (try simp only [List.getElem_cons_succ]); (try simp only [List.getElem_cons_zero]); (try simp only [Act.put]); (try simp only [List.setIfInBounds_toArray]); (try simp only [List.set_cons_succ]); (try simp only [List.set_cons_zero])
          refine wpAnyH_ready (rs := [10]) (by kernel_rfl) (by simp) ?_
          refine AllReadyH.cons rfl (fun K hK => ?_) AllReadyH.nil
          go_simp
          go_at_call 33
          refine (at_any (hB.up hV0) 1 (by omega) hs).mono ?_
          rintro e w120 ⟨⟨z, rfl, hz⟩, hb120⟩
          have hV1 := Up.then_ hV0 hb120
          go_wp2_with fail
          refine hK.out _ _ (by exact ⟨hV1, fun _ _ hb => hV1.cell hb⟩) (fun hHeld1 => ?_)
          clear hK K
          (try simp only [List.getElem_toArray]); (try simp only [List.getElem_cons_succ]); (try simp only [List.getElem_cons_zero]); (try simp only [Act.put]); (try simp only [List.setIfInBounds_toArray]); (try simp only [List.set_cons_succ]); (try simp only [List.set_cons_zero])
          refine wpAnyH_take (i := 13) (v := ?_) rfl (by kernel_rfl) (by kernel_rfl) (by kernel_rfl) (fun _ _ _ h => h) (Or.inl ⟨by rfl, ?_⟩) (by assumption) ?_
          rotate_left
          · (intro w' hSw; go_simp; try with_reducible rfl)
          (try simp only [List.getElem_toArray]); (try simp only [List.getElem_cons_succ]); (try simp only [List.getElem_cons_zero]); (try simp only [Act.put]); (try simp only [List.setIfInBounds_toArray]); (try simp only [List.set_cons_succ]); (try simp only [List.set_cons_zero])
          refine wpAnyH_ready (rs := [14]) (by kernel_rfl) (by simp) ?_
          refine AllReadyH.cons rfl (fun K hK => ?_) AllReadyH.nil
          go_simp
          go_at_call 32
          refine (HLX z _ (hX.up hV1)).mono ?_
          rintro e w121 ⟨rfl, hb121⟩
          have hV2 := Up.then_ hV1 hb121
          go_wp2_with fail
          refine hK.out _ _ (by exact ⟨hV2, fun _ _ hb => hV2.cell hb⟩) (fun hHeld2 => ?_)
          clear hK K
          (try simp only [List.getElem_toArray]); (try simp only [List.getElem_cons_succ]); (try simp only [List.getElem_cons_zero]); (try simp only [Act.put]); (try simp only [List.setIfInBounds_toArray]); (try simp only [List.set_cons_succ]); (try simp only [List.set_cons_zero])
          refine wpAnyH_take (i := 15) (v := ?_) rfl (by kernel_rfl) (by kernel_rfl) (by kernel_rfl) (fun _ _ _ h => h) (Or.inl ⟨by rfl, ?_⟩) (by assumption) ?_
          rotate_left
          · (intro w' hSw; go_simp; try with_reducible rfl)
          (try simp only [List.getElem_toArray]); (try simp only [List.getElem_cons_succ]); (try simp only [List.getElem_cons_zero]); (try simp only [Act.put]); (try simp only [List.setIfInBounds_toArray]); (try simp only [List.set_cons_succ]); (try simp only [List.set_cons_zero])
          refine wpAnyH_take (i := 16) (v := ?_) rfl (by kernel_rfl) (by kernel_rfl) (by kernel_rfl) (fun _ _ _ h => h) (Or.inl ⟨by rfl, ?_⟩) (by assumption) ?_
          rotate_left
          · (intro w' hSw; go_simp; try with_reducible rfl)
          (try simp only [List.getElem_toArray]); (try simp only [List.getElem_cons_succ]); (try simp only [List.getElem_cons_zero]); (try simp only [Act.put]); (try simp only [List.setIfInBounds_toArray]); (try simp only [List.set_cons_succ]); (try simp only [List.set_cons_zero])
          refine wpAnyH_take (i := 17) (v := ?_) rfl (by kernel_rfl) (by kernel_rfl) (by kernel_rfl) (fun _ _ _ h => h) (Or.inl ⟨by rfl, ?_⟩) (by assumption) ?_
          rotate_left
          · (intro w' hSw; go_simp; try with_reducible rfl)
          (try simp only [List.getElem_toArray]); (try simp only [List.getElem_cons_succ]); (try simp only [List.getElem_cons_zero]); (try simp only [Act.put]); (try simp only [List.setIfInBounds_toArray]); (try simp only [List.set_cons_succ]); (try simp only [List.set_cons_zero])
          refine wpAnyH_take (i := 18) (v := ?_) rfl (by kernel_rfl) (by kernel_rfl) (by kernel_rfl) (fun _ _ _ h => h) (Or.inl ⟨by rfl, ?_⟩) (by assumption) ?_
          rotate_left
          · (intro w' hSw; go_simp; try with_reducible rfl)
          (try simp only [List.getElem_toArray]); (try simp only [List.getElem_cons_succ]); (try simp only [List.getElem_cons_zero]); (try simp only [Act.put]); (try simp only [List.setIfInBounds_toArray]); (try simp only [List.set_cons_succ]); (try simp only [List.set_cons_zero])
          refine wpAnyH_ready (rs := [19]) (by kernel_rfl) (by simp) ?_
          refine AllReadyH.cons rfl (fun K hK => ?_) AllReadyH.nil
          go_simp
          go_at_call 34
          refine (HSI _ (hX.up hV2)).mono ?_
          rintro e w122 ⟨A13, c13, rfl, hO13, hb122⟩
          have hV3 := Up.then_ hV2 hb122
          go_wp2_with fail
          refine hK.out _ _ (by exact ⟨hV3, fun _ _ hb => hV3.cell hb⟩) (fun hHeld3 => ?_)
          clear hK K
          (try simp only [List.getElem_toArray]); (try simp only [List.getElem_cons_succ]); (try simp only [List.getElem_cons_zero]); (try simp only [Act.put]); (try simp only [List.setIfInBounds_toArray]); (try simp only [List.set_cons_succ]); (try simp only [List.set_cons_zero])
          refine wpAnyH_take (i := 20) (v := ?_) rfl (by kernel_rfl) (by kernel_rfl) (by kernel_rfl) (fun _ _ _ h => h) (Or.inl ⟨by rfl, ?_⟩) (by assumption) ?_
          rotate_left
          · (intro w' hSw; go_simp; try with_reducible rfl)
          (try simp only [List.getElem_toArray]); (try simp only [List.getElem_cons_succ]); (try simp only [List.getElem_cons_zero]); (try simp only [Act.put]); (try simp only [List.setIfInBounds_toArray]); (try simp only [List.set_cons_succ]); (try simp only [List.set_cons_zero])
          refine wpAnyH_take (i := 21) (v := ?_) rfl (by kernel_rfl) (by kernel_rfl) (by kernel_rfl) (fun _ _ _ h => h) (Or.inl ⟨by rfl, ?_⟩) (by assumption) ?_
          rotate_left
          · (intro w' hSw; go_simp; try with_reducible rfl)
          (try simp only [List.getElem_toArray]); (try simp only [List.getElem_cons_succ]); (try simp only [List.getElem_cons_zero]); (try simp only [Act.put]); (try simp only [List.setIfInBounds_toArray]); (try simp only [List.set_cons_succ]); (try simp only [List.set_cons_zero])
          refine wpAnyH_take (i := 22) (v := ?_) rfl (by kernel_rfl) (by kernel_rfl) (by kernel_rfl) (fun _ _ _ h => h) (Or.inl ⟨by rfl, ?_⟩) (by assumption) ?_
          rotate_left
          · (intro w' hSw; go_simp; try with_reducible rfl)
          (try simp only [List.getElem_toArray]); (try simp only [List.getElem_cons_succ]); (try simp only [List.getElem_cons_zero]); (try simp only [Act.put]); (try simp only [List.setIfInBounds_toArray]); (try simp only [List.set_cons_succ]); (try simp only [List.set_cons_zero])
          refine wpAnyH_done (by kernel_rfl) ?_ _
          have hU12 := hV3
          replace hX := hX.up hU12
          replace hB := hB.up hU12
          replace hG := hG.up hU12
          replace yhG := hG.two
          replace lhG := hG.lt
          have hw12 := Up.then_ hw11 hU12
          clear hV0 hV1 hV2 hV3 hb120 hb121 hb122 hHeld hHeld1 hHeld2 hHeld3 hO13 hU12 hw11 HLX HSI hslb hsl0 hNne
          clear hX hG yhG lhG
          have hlowT : ∀ ad, B = some ad → ad.block < w122.heap.size := fun ad e => by have := hlow ad e; have := hw12.size; omega
          go_wp2_with fail
          refine (drawFillOf_any B n c bs _ hB hs hlowT).mono ?_
          rintro e w20 ⟨N2, P2, m2, d2, X2, L2, e2, xs, rfl, hX2, hle2, hL2, hl2, hb20⟩
          have hU20 : Up w122 w20 := Up.then_ (by go_grown) hb20
          replace hB := hB.up hU20
          have hw20 := Up.then_ hw12 hU20
          have hm2 : m2 ≤ 6 := by rw [← hX2.len]; exact hle2
          have hG2 := Blk.new w20 26 #[.int .i64 N2, .slice P2 m2 d2]
          have hU21 : Up w20 (w20.alloc (.cells #[.int .i64 N2, .slice P2 m2 d2] 26)) := by go_grown
          have hw21 := Up.then_ hw20 hU21
          have hcap2 := hL2.cap
          have hP2 := hX2.ri.up hU21
          have hQ2 := hL2.ri.up hU21
          replace hB := hB.up hU21
          obtain ⟨g2, hg2⟩ : ∃ g2, g2 = w20.heap.size := ⟨_, rfl⟩
          rw [← hg2] at hG2
          go_wp2_with fail
          rw [← hg2]
          generalize w20.alloc (.cells #[.int .i64 N2, .slice P2 m2 d2] 26) = w21 at hG2 hP2 hQ2 hB hw21 ⊢
          clear hg2 hU20 hU21 hb20 hX2 hL2 hw20 hle2
          have yhG2 := hG2.two
          have lhG2 := hG2.lt
          obtain ⟨fl, hfl⟩ : ∃ fl, fl = fillOf N2 X2 xs := ⟨_, rfl⟩
          obtain ⟨io, hio⟩ : ∃ io, io = isOrder N2 X2 xs := ⟨_, rfl⟩
          have hfll : fl.length ≤ 49 := by rw [hfl]; exact fillOf_small N2 X2 xs
          have HFI : ∀ w', RI w' P2 m2 X2 → RI w' L2 xs.length xs → Calls Try.prog 31 #[.agg #[.int .i64 N2, .slice P2 m2 d2], .slice L2 xs.length e2] w' (GivesRB (fl.map row2) io w') := fun w' h h2 => by rw [hfl, hio]; exact implFillOf_any N2 P2 L2 m2 d2 xs.length e2 X2 xs w' h h2 (by omega) (by omega) hcap2.1
          have HFS : ∀ w', RI w' P2 m2 X2 → RI w' L2 xs.length xs → Calls Try.prog 36 #[.agg #[.int .i64 N2, .slice P2 m2 d2], .slice L2 xs.length e2] w' (GivesRB (fl.map row2) io w') := fun w' h h2 => by rw [hfl, hio]; exact specFillOf_any N2 P2 L2 m2 d2 xs.length e2 X2 xs w' h h2 (by omega) (by omega)
          have HEF := Lib.hid (show io = true → isElim N2 X2 xs = decide (fl.length = 0) from fun e => by rw [hfl]; exact (fillOf_none (by rw [← hio]; exact e)).symm)
          have HFL := Lib.hid (show ∀ ps : List RowP, ps.map Prod.snd = fl.map row2 → ps.length = fl.length from fun ps h => by have := congrArg List.length h; simpa using this)
          clear hfl hio
          go_wp2_with fail
          refine (HFI _ hP2 hQ2).mono ?_
          rintro e w22 ⟨A22, c22, ps, hps, rfl, hO22, hb22⟩
          have hU22 : Up w21 w22 := Up.then_ (by go_grown) hb22
          replace hB := hB.up hU22
          replace hG2 := hG2.up hU22
          replace hP2 := hP2.up hU22
          replace hQ2 := hQ2.up hU22
          replace yhG2 := hG2.two
          replace lhG2 := hG2.lt
          have HPS := Lib.hid hps
          have hpl := HFL.out ps hps
          rw [hpl] at hO22 ⊢
          clear hps hpl
          replace yhG2 := hG2.two
          replace lhG2 := hG2.lt
          have hw22 := Up.then_ hw21 hU22
          go_wp2_with fail
          refine (HFS _ hP2 hQ2).mono ?_
          rintro e w23 ⟨A23, c23, qs, hqs, rfl, hO23, hb23⟩
          have hU23 : Up w22 w23 := Up.then_ (by go_grown) hb23
          replace hB := hB.up hU23
          replace hG2 := hG2.up hU23
          replace hP2 := hP2.up hU23
          replace hQ2 := hQ2.up hU23
          replace hO22 := hO22.up hU23
          replace yhG2 := hG2.two
          replace lhG2 := hG2.lt
          have HQS := Lib.hid hqs
          have hql := HFL.out qs hqs
          rw [hql] at hO23 ⊢
          clear hqs hql
          replace yhG2 := hG2.two
          replace lhG2 := hG2.lt
          have hw23 := Up.then_ hw22 hU23
          clear HFI HFS HFL hU22 hU23 hb22 hb23 hw21 hw22
          have HSL := Lib.hid (show ps.map Prod.snd = qs.map Prod.snd by rw [HPS.out, HQS.out])
          have HRW := Lib.hid (row2_rows HPS.out)
          go_wp2_with fail
          refine (sameLists_up hO22 hO23 HSL.out HRW.out (by omega)).mono ?_
          rintro e w24 ⟨rfl, hb24⟩
          have hU24 : Up w23 w24 := Up.then_ (by go_grown) hb24
          replace hB := hB.up hU24
          replace hG2 := hG2.up hU24
          replace hP2 := hP2.up hU24
          replace hQ2 := hQ2.up hU24
          replace hO22 := hO22.up hU24
          replace hO23 := hO23.up hU24
          replace yhG2 := hG2.two
          replace lhG2 := hG2.lt
          have hw24 := Up.then_ hw23 hU24
          clear HSL HRW HPS HQS hO22 hO23 hb24 hU24 hw23
          cases io
          · clear HEF
            clear hP2 hQ2 hG2 yhG2 lhG2
            have hlow30 : ∀ ad, B = some ad → ad.block < w24.heap.size := fun ad e => by have := hlow ad e; have := hw24.size; omega
            go_wp2_with fail
            refine (drawIsElimination_any B n c bs _ hB hs hlow30).mono ?_
            rintro e w30 ⟨N3, P3, m3, d3, X3, L3, e3, ys, rfl, hX3, hle3, hL3, hl3, hb30⟩
            have hU30 : Up w24 w30 := Up.then_ (by go_grown) hb30
            replace hB := hB.up hU30
            have hw30 := Up.then_ hw24 hU30
            have hm3 : m3 ≤ 6 := by rw [← hX3.len]; exact hle3
            have hcap3 := hL3.cap
            have hG3 := Blk.new w30 26 #[.int .i64 N3, .slice P3 m3 d3]
            have hU31 : Up w30 (w30.alloc (.cells #[.int .i64 N3, .slice P3 m3 d3] 26)) := by go_grown
            have hw31 := Up.then_ hw30 hU31
            have hP3 := hX3.ri.up hU31
            have hQ3 := hL3.ri.up hU31
            replace hB := hB.up hU31
            obtain ⟨g3, hg3⟩ : ∃ g3, g3 = w30.heap.size := ⟨_, rfl⟩
            rw [← hg3] at hG3
            go_wp2_with fail
            rw [← hg3]
            generalize w30.alloc (.cells #[.int .i64 N3, .slice P3 m3 d3] 26) = w31 at hG3 hP3 hQ3 hB hw31 ⊢
            have hlow31 : ∀ ad, B = some ad → ad.block < w31.heap.size := fun ad e => by have := hlow ad e; have := hw31.size; omega
            clear hg3 hU30 hU31 hb30 hX3 hL3 hw30 hle3
            refine (drawLaterNeighbours_any B n c bs _ hB hs hlow31).mono ?_
            rintro e w32 ⟨N4, P4, m4, d4, X4, L4, e4, zs, v4, rfl, hX4, hle4, hL4, hl4, hv41, hv42, hb32⟩
            have hU32 : Up w31 w32 := hb32
            replace hB := hB.up hU32
            replace hG3 := hG3.up hU32
            replace hP3 := hP3.up hU32
            replace hQ3 := hQ3.up hU32
            have hw32 := Up.then_ hw31 hU32
            have hm4 : m4 ≤ 6 := by rw [← hX4.len]; exact hle4
            have hcap4 := hL4.cap
            have hG4 := Blk.new w32 26 #[.int .i64 N4, .slice P4 m4 d4]
            have hU33 : Up w32 (w32.alloc (.cells #[.int .i64 N4, .slice P4 m4 d4] 26)) := by go_grown
            have hw33 := Up.then_ hw32 hU33
            have hP4 := hX4.ri.up hU33
            have hQ4 := hL4.ri.up hU33
            replace hB := hB.up hU33
            replace hG3 := hG3.up hU33
            replace hP3 := hP3.up hU33
            replace hQ3 := hQ3.up hU33
            obtain ⟨g4, hg4⟩ : ∃ g4, g4 = w32.heap.size := ⟨_, rfl⟩
            rw [← hg4] at hG4
            go_wp2_with fail
            rw [← hg4]
            generalize w32.alloc (.cells #[.int .i64 N4, .slice P4 m4 d4] 26) = w33 at hG4 hP4 hQ4 hB hG3 hP3 hQ3 hw33 ⊢
            have hlow33 : ∀ ad, B = some ad → ad.block < w33.heap.size := fun ad e => by have := hlow ad e; have := hw33.size; omega
            clear hg4 hU32 hU33 hb32 hX4 hL4 hw32 hle4 hw31
            refine (drawSimplicialOf_any B n c bs _ hB hs hlow33).mono ?_
            rintro e w34 ⟨N5, P5, m5, d5, X5, rfl, hX5, hle5, hb34⟩
            have hU34 : Up w33 w34 := hb34
            replace hB := hB.up hU34
            replace hG3 := hG3.up hU34
            replace hP3 := hP3.up hU34
            replace hQ3 := hQ3.up hU34
            replace hG4 := hG4.up hU34
            replace hP4 := hP4.up hU34
            replace hQ4 := hQ4.up hU34
            have hw34 := Up.then_ hw33 hU34
            have hm5 : m5 ≤ 6 := by rw [← hX5.len]; exact hle5
            have hG5 := Blk.new w34 26 #[.int .i64 N5, .slice P5 m5 d5]
            have hU35 : Up w34 (w34.alloc (.cells #[.int .i64 N5, .slice P5 m5 d5] 26)) := by go_grown
            have hw35 := Up.then_ hw34 hU35
            have hP5 := hX5.ri.up hU35
            replace hB := hB.up hU35
            replace hG3 := hG3.up hU35
            replace hP3 := hP3.up hU35
            replace hQ3 := hQ3.up hU35
            replace hG4 := hG4.up hU35
            replace hP4 := hP4.up hU35
            replace hQ4 := hQ4.up hU35
            obtain ⟨g5, hg5⟩ : ∃ g5, g5 = w34.heap.size := ⟨_, rfl⟩
            rw [← hg5] at hG5
            go_wp2_with fail
            rw [← hg5]
            generalize w34.alloc (.cells #[.int .i64 N5, .slice P5 m5 d5] 26) = w35 at hG5 hP5 hB hG3 hP3 hQ3 hG4 hP4 hQ4 hw35 ⊢
            have hlow35 : ∀ ad, B = some ad → ad.block < w35.heap.size := fun ad e => by have := hlow ad e; have := hw35.size; omega
            clear hg5 hU34 hU35 hb34 hX5 hw34 hle5 hw33
            refine (drawIsLexElimination_any B n c bs _ hB hs hlow35).mono ?_
            rintro e w36 ⟨N6, P6, m6, d6, X6, s6, rfl, hX6, hle6, hs61, hs62, hb36⟩
            have hU36 : Up w35 w36 := hb36
            replace hB := hB.up hU36
            replace hG3 := hG3.up hU36
            replace hP3 := hP3.up hU36
            replace hQ3 := hQ3.up hU36
            replace hG4 := hG4.up hU36
            replace hP4 := hP4.up hU36
            replace hQ4 := hQ4.up hU36
            replace hG5 := hG5.up hU36
            replace hP5 := hP5.up hU36
            have hw36 := Up.then_ hw35 hU36
            have hm6' : m6 ≤ 6 := by rw [← hX6.len]; exact hle6
            have hG6 := Blk.new w36 26 #[.int .i64 N6, .slice P6 m6 d6]
            have hU37 : Up w36 (w36.alloc (.cells #[.int .i64 N6, .slice P6 m6 d6] 26)) := by go_grown
            have hw37 := Up.then_ hw36 hU37
            have hP6 := hX6.ri.up hU37
            replace hG3 := hG3.up hU37
            replace hP3 := hP3.up hU37
            replace hQ3 := hQ3.up hU37
            replace hG4 := hG4.up hU37
            replace hP4 := hP4.up hU37
            replace hQ4 := hQ4.up hU37
            replace hG5 := hG5.up hU37
            replace hP5 := hP5.up hU37
            obtain ⟨g6, hg6⟩ : ∃ g6, g6 = w36.heap.size := ⟨_, rfl⟩
            rw [← hg6] at hG6
            go_wp2_with fail
            rw [← hg6]
            generalize w36.alloc (.cells #[.int .i64 N6, .slice P6 m6 d6] 26) = w37 at hG6 hP6 hG3 hP3 hQ3 hG4 hP4 hQ4 hG5 hP5 hw37 ⊢
            clear hg6 hU36 hU37 hb36 hX6 hw36 hle6 hw35 hlow31 hlow33 hlow35 hB
            have yhG3 := hG3.two
            have lhG3 := hG3.lt
            have yhG4 := hG4.two
            have lhG4 := hG4.lt
            have yhG5 := hG5.two
            have lhG5 := hG5.lt
            have yhG6 := hG6.two
            have lhG6 := hG6.lt
            obtain ⟨s5, hs5⟩ : ∃ s5, s5 = simpL N5 X5 := ⟨_, rfl⟩
            have hs5l : s5.length ≤ 7 := by rw [hs5]; exact simpL_small N5 X5
            have HSI : ∀ w', RI w' P5 m5 X5 → Calls Try.prog 34 #[.agg #[.int .i64 N5, .slice P5 m5 d5]] w' (GivesI s5 w') := fun w' h => by rw [hs5]; exact implSimplicialOf_any N5 P5 m5 d5 X5 w' h (by omega)
            have HSS : ∀ w', RI w' P5 m5 X5 → Calls Try.prog 45 #[.agg #[.int .i64 N5, .slice P5 m5 d5]] w' (GivesI s5 w') := fun w' h => by rw [hs5]; exact specSimplicialOf_any N5 P5 m5 d5 X5 w' h (by omega)
            clear hs5
            have hV0 : Up w37 w37.drew := (Up.refl _).drew
            refine wp_region_held_drew (S := (fun w' => Up w37 w' ∧ (∀ b o, b < w37.heap.size → w'.cell? ⟨b, o, none⟩ = w37.cell? ⟨b, o, none⟩))) (by kernel_rfl) (by exact ⟨hV0, fun _ _ hb => hV0.cell hb⟩) (fun hHeld => ?_)
            refine wpAnyH_take (i := 0) (v := ?_) rfl (by kernel_rfl) (by kernel_rfl) (by kernel_rfl) (fun _ _ _ h => h) (Or.inl ⟨by rfl, ?_⟩) (by assumption) ?_
            rotate_left
            · (intro w' hSw; go_simp; try with_reducible rfl)
            (try simp only [List.getElem_toArray]); (try simp only [List.getElem_cons_succ]); (try simp only [List.getElem_cons_zero]); (try simp only [Act.put]); (try simp only [List.setIfInBounds_toArray]); (try simp only [List.set_cons_succ]); (try simp only [List.set_cons_zero])
            refine wpAnyH_take (i := 1) (v := ?_) rfl (by kernel_rfl) (by kernel_rfl) (by kernel_rfl) (fun _ _ _ h => h) (Or.inl ⟨by rfl, ?_⟩) (by assumption) ?_
            rotate_left
            · (intro w' hSw; go_simp; try with_reducible rfl)
            (try simp only [List.getElem_toArray]); (try simp only [List.getElem_cons_succ]); (try simp only [List.getElem_cons_zero]); (try simp only [Act.put]); (try simp only [List.setIfInBounds_toArray]); (try simp only [List.set_cons_succ]); (try simp only [List.set_cons_zero])
            refine wpAnyH_take (i := 3) (v := ?_) rfl (by kernel_rfl) (by kernel_rfl) (by kernel_rfl) (fun _ _ _ h => h) (Or.inl ⟨by rfl, ?_⟩) (by assumption) ?_
            rotate_left
            · (intro w' hSw; go_simp; try with_reducible rfl)
            (try simp only [List.getElem_toArray]); (try simp only [List.getElem_cons_succ]); (try simp only [List.getElem_cons_zero]); (try simp only [Act.put]); (try simp only [List.setIfInBounds_toArray]); (try simp only [List.set_cons_succ]); (try simp only [List.set_cons_zero])
            refine wpAnyH_take (i := 4) (v := ?_) rfl (by kernel_rfl) (by kernel_rfl) (by kernel_rfl) (fun _ _ _ h => h) (Or.inl ⟨by rfl, ?_⟩) (by assumption) ?_
            rotate_left
            · (intro w' hSw; go_simp; try with_reducible rfl)
            (try simp only [List.getElem_toArray]); (try simp only [List.getElem_cons_succ]); (try simp only [List.getElem_cons_zero]); (try simp only [Act.put]); (try simp only [List.setIfInBounds_toArray]); (try simp only [List.set_cons_succ]); (try simp only [List.set_cons_zero])
            refine wpAnyH_ready (rs := [2]) (by kernel_rfl) (by simp) ?_
            refine AllReadyH.cons rfl (fun K hK => ?_) AllReadyH.nil
            go_simp
            go_at_call 30
            refine (implIsElimination_any N3 P3 L3 m3 d3 ys.length e3 X3 ys _ (hP3.up hV0) (hQ3.up hV0) (by omega) (by omega) hcap3.1).mono ?_
            rintro e w400 ⟨rfl, hb400⟩
            have hV1 := Up.then_ hV0 hb400
            go_wp2_with fail
            refine hK.out _ _ (by exact ⟨hV1, fun _ _ hb => hV1.cell hb⟩) (fun hHeld1 => ?_)
            clear hK K
            (try simp only [List.getElem_toArray]); (try simp only [List.getElem_cons_succ]); (try simp only [List.getElem_cons_zero]); (try simp only [Act.put]); (try simp only [List.setIfInBounds_toArray]); (try simp only [List.set_cons_succ]); (try simp only [List.set_cons_zero])
            refine wpAnyH_ready (rs := [5]) (by kernel_rfl) (by simp) ?_
            refine AllReadyH.cons rfl (fun K hK => ?_) AllReadyH.nil
            go_simp
            go_at_call 42
            refine (specIsElimination_any N3 P3 L3 m3 d3 ys.length e3 X3 ys _ (hP3.up hV1) (hQ3.up hV1) (by omega) (by omega)).mono ?_
            rintro e w401 ⟨rfl, hb401⟩
            have hV2 := Up.then_ hV1 hb401
            go_wp2_with fail
            refine hK.out _ _ (by exact ⟨hV2, fun _ _ hb => hV2.cell hb⟩) (fun hHeld2 => ?_)
            clear hK K
            (try simp only [List.getElem_toArray]); (try simp only [List.getElem_cons_succ]); (try simp only [List.getElem_cons_zero]); (try simp only [Act.put]); (try simp only [List.setIfInBounds_toArray]); (try simp only [List.set_cons_succ]); (try simp only [List.set_cons_zero])
            refine wpAnyH_take (i := 6) (v := ?_) rfl (by kernel_rfl) (by kernel_rfl) (by kernel_rfl) (fun _ _ _ h => h) (Or.inl ⟨by rfl, ?_⟩) (by assumption) ?_
            rotate_left
            · (intro w' hSw; go_simp; try with_reducible rfl)
            (try simp only [List.getElem_toArray]); (try simp only [List.getElem_cons_succ]); (try simp only [List.getElem_cons_zero]); (try simp only [Act.put]); (try simp only [List.setIfInBounds_toArray]); (try simp only [List.set_cons_succ]); (try simp only [List.set_cons_zero])
            refine wpAnyH_take (i := 7) (v := ?_) rfl (by kernel_rfl) (by kernel_rfl) (by kernel_rfl) (fun _ _ _ h => h) (Or.inl ⟨by rfl, ?_⟩) (by assumption) ?_
            rotate_left
            · (intro w' hSw; go_simp; try with_reducible rfl)
            (try simp only [List.getElem_toArray]); (try simp only [List.getElem_cons_succ]); (try simp only [List.getElem_cons_zero]); (try simp only [Act.put]); (try simp only [List.setIfInBounds_toArray]); (try simp only [List.set_cons_succ]); (try simp only [List.set_cons_zero])
            refine wpAnyH_take (i := 8) (v := ?_) rfl (by kernel_rfl) (by kernel_rfl) (by kernel_rfl) (fun _ _ _ h => h) (Or.inl ⟨by rfl, ?_⟩) (by assumption) ?_
            rotate_left
            · (intro w' hSw; go_simp; try with_reducible rfl)
            (try simp only [List.getElem_toArray]); (try simp only [List.getElem_cons_succ]); (try simp only [List.getElem_cons_zero]); (try simp only [Act.put]); (try simp only [List.setIfInBounds_toArray]); (try simp only [List.set_cons_succ]); (try simp only [List.set_cons_zero])
            refine wpAnyH_take (i := 9) (v := ?_) rfl (by kernel_rfl) (by kernel_rfl) (by kernel_rfl) (fun _ _ _ h => h) (Or.inl ⟨by rfl, ?_⟩) (by assumption) ?_
            rotate_left
            · (intro w' hSw; go_simp; try with_reducible rfl)
            (try simp only [List.getElem_toArray]); (try simp only [List.getElem_cons_succ]); (try simp only [List.getElem_cons_zero]); (try simp only [Act.put]); (try simp only [List.setIfInBounds_toArray]); (try simp only [List.set_cons_succ]); (try simp only [List.set_cons_zero])
            refine wpAnyH_take (i := 10) (v := ?_) rfl (by kernel_rfl) (by kernel_rfl) (by kernel_rfl) (fun _ _ _ h => h) (Or.inl ⟨by rfl, ?_⟩) (by assumption) ?_
            rotate_left
            · (intro w' hSw; go_simp; try with_reducible rfl)
            (try simp only [List.getElem_toArray]); (try simp only [List.getElem_cons_succ]); (try simp only [List.getElem_cons_zero]); (try simp only [Act.put]); (try simp only [List.setIfInBounds_toArray]); (try simp only [List.set_cons_succ]); (try simp only [List.set_cons_zero])
            refine wpAnyH_take (i := 12) (v := ?_) rfl (by kernel_rfl) (by kernel_rfl) (by kernel_rfl) (fun _ _ _ h => h) (Or.inl ⟨by rfl, ?_⟩) (by assumption) ?_
            rotate_left
            · (intro w' hSw; go_simp; try with_reducible rfl)
            (try simp only [List.getElem_toArray]); (try simp only [List.getElem_cons_succ]); (try simp only [List.getElem_cons_zero]); (try simp only [Act.put]); (try simp only [List.setIfInBounds_toArray]); (try simp only [List.set_cons_succ]); (try simp only [List.set_cons_zero])
            refine wpAnyH_take (i := 13) (v := ?_) rfl (by kernel_rfl) (by kernel_rfl) (by kernel_rfl) (fun _ _ _ h => h) (Or.inl ⟨by rfl, ?_⟩) (by assumption) ?_
            rotate_left
            · (intro w' hSw; go_simp; try with_reducible rfl)
            (try simp only [List.getElem_toArray]); (try simp only [List.getElem_cons_succ]); (try simp only [List.getElem_cons_zero]); (try simp only [Act.put]); (try simp only [List.setIfInBounds_toArray]); (try simp only [List.set_cons_succ]); (try simp only [List.set_cons_zero])
            refine wpAnyH_take (i := 14) (v := ?_) rfl (by kernel_rfl) (by kernel_rfl) (by kernel_rfl) (fun _ _ _ h => h) (Or.inl ⟨by rfl, ?_⟩) (by assumption) ?_
            rotate_left
            · (intro w' hSw; go_simp; try with_reducible rfl)
            (try simp only [List.getElem_toArray]); (try simp only [List.getElem_cons_succ]); (try simp only [List.getElem_cons_zero]); (try simp only [Act.put]); (try simp only [List.setIfInBounds_toArray]); (try simp only [List.set_cons_succ]); (try simp only [List.set_cons_zero])
            refine wpAnyH_ready (rs := [11]) (by kernel_rfl) (by simp) ?_
            refine AllReadyH.cons rfl (fun K hK => ?_) AllReadyH.nil
            go_simp
            go_at_call 43
            refine (implLater_any N4 v4 P4 L4 m4 d4 zs.length e4 X4 zs _ (hP4.up hV2) (hQ4.up hV2) (by omega) (by omega) hcap4.1).mono ?_
            rintro e w402 ⟨rfl, hb402⟩
            have hV3 := Up.then_ hV2 hb402
            go_wp2_with fail
            refine hK.out _ _ (by exact ⟨hV3, fun _ _ hb => hV3.cell hb⟩) (fun hHeld3 => ?_)
            clear hK K
            (try simp only [List.getElem_toArray]); (try simp only [List.getElem_cons_succ]); (try simp only [List.getElem_cons_zero]); (try simp only [Act.put]); (try simp only [List.setIfInBounds_toArray]); (try simp only [List.set_cons_succ]); (try simp only [List.set_cons_zero])
            refine wpAnyH_ready (rs := [15]) (by kernel_rfl) (by simp) ?_
            refine AllReadyH.cons rfl (fun K hK => ?_) AllReadyH.nil
            go_simp
            go_at_call 44
            refine (specLater_any N4 v4 P4 L4 m4 d4 zs.length e4 X4 zs _ (hP4.up hV3) (hQ4.up hV3) (by omega) (by omega)).mono ?_
            rintro e w403 ⟨rfl, hb403⟩
            have hV4 := Up.then_ hV3 hb403
            go_wp2_with fail
            refine hK.out _ _ (by exact ⟨hV4, fun _ _ hb => hV4.cell hb⟩) (fun hHeld4 => ?_)
            clear hK K
            (try simp only [List.getElem_toArray]); (try simp only [List.getElem_cons_succ]); (try simp only [List.getElem_cons_zero]); (try simp only [Act.put]); (try simp only [List.setIfInBounds_toArray]); (try simp only [List.set_cons_succ]); (try simp only [List.set_cons_zero])
            refine wpAnyH_take (i := 16) (v := ?_) rfl (by kernel_rfl) (by kernel_rfl) (by kernel_rfl) (fun _ _ _ h => h) (Or.inl ⟨by rfl, ?_⟩) (by assumption) ?_
            rotate_left
            · (intro w' hSw; go_simp; try with_reducible rfl)
            (try simp only [List.getElem_toArray]); (try simp only [List.getElem_cons_succ]); (try simp only [List.getElem_cons_zero]); (try simp only [Act.put]); (try simp only [List.setIfInBounds_toArray]); (try simp only [List.set_cons_succ]); (try simp only [List.set_cons_zero])
            refine wpAnyH_take (i := 17) (v := ?_) rfl (by kernel_rfl) (by kernel_rfl) (by kernel_rfl) (fun _ _ _ h => h) (Or.inl ⟨by rfl, ?_⟩) (by assumption) ?_
            rotate_left
            · (intro w' hSw; go_simp; try with_reducible rfl)
            (try simp only [List.getElem_toArray]); (try simp only [List.getElem_cons_succ]); (try simp only [List.getElem_cons_zero]); (try simp only [Act.put]); (try simp only [List.setIfInBounds_toArray]); (try simp only [List.set_cons_succ]); (try simp only [List.set_cons_zero])
            refine wpAnyH_take (i := 18) (v := ?_) rfl (by kernel_rfl) (by kernel_rfl) (by kernel_rfl) (fun _ _ _ h => h) (Or.inl ⟨by rfl, ?_⟩) (by assumption) ?_
            rotate_left
            · (intro w' hSw; go_simp; try with_reducible rfl)
            (try simp only [List.getElem_toArray]); (try simp only [List.getElem_cons_succ]); (try simp only [List.getElem_cons_zero]); (try simp only [Act.put]); (try simp only [List.setIfInBounds_toArray]); (try simp only [List.set_cons_succ]); (try simp only [List.set_cons_zero])
            refine wpAnyH_take (i := 19) (v := ?_) rfl (by kernel_rfl) (by kernel_rfl) (by kernel_rfl) (fun _ _ _ h => h) (Or.inl ⟨by rfl, ?_⟩) (by assumption) ?_
            rotate_left
            · (intro w' hSw; go_simp; try with_reducible rfl)
            (try simp only [List.getElem_toArray]); (try simp only [List.getElem_cons_succ]); (try simp only [List.getElem_cons_zero]); (try simp only [Act.put]); (try simp only [List.setIfInBounds_toArray]); (try simp only [List.set_cons_succ]); (try simp only [List.set_cons_zero])
            refine wpAnyH_take (i := 21) (v := ?_) rfl (by kernel_rfl) (by kernel_rfl) (by kernel_rfl) (fun _ _ _ h => h) (Or.inl ⟨by rfl, ?_⟩) (by assumption) ?_
            rotate_left
            · (intro w' hSw; go_simp; try with_reducible rfl)
            (try simp only [List.getElem_toArray]); (try simp only [List.getElem_cons_succ]); (try simp only [List.getElem_cons_zero]); (try simp only [Act.put]); (try simp only [List.setIfInBounds_toArray]); (try simp only [List.set_cons_succ]); (try simp only [List.set_cons_zero])
            refine wpAnyH_ready (rs := [20]) (by kernel_rfl) (by simp) ?_
            refine AllReadyH.cons rfl (fun K hK => ?_) AllReadyH.nil
            go_simp
            go_at_call 34
            refine (HSI _ (hP5.up hV4)).mono ?_
            rintro e w404 ⟨A44, c44, rfl, hO44, hb404⟩
            have hV5 := Up.then_ hV4 hb404
            go_wp2_with fail
            refine hK.out _ _ (by exact ⟨hV5, fun _ _ hb => hV5.cell hb⟩) (fun hHeld5 => ?_)
            clear hK K
            (try simp only [List.getElem_toArray]); (try simp only [List.getElem_cons_succ]); (try simp only [List.getElem_cons_zero]); (try simp only [Act.put]); (try simp only [List.setIfInBounds_toArray]); (try simp only [List.set_cons_succ]); (try simp only [List.set_cons_zero])
            refine wpAnyH_ready (rs := [22]) (by kernel_rfl) (by simp) ?_
            refine AllReadyH.cons rfl (fun K hK => ?_) AllReadyH.nil
            go_simp
            go_at_call 45
            refine (HSS _ (hP5.up hV5)).mono ?_
            rintro e w405 ⟨A45, c45, rfl, hO45, hb405⟩
            have hV6 := Up.then_ hV5 hb405
            go_wp2_with fail
            refine hK.out _ _ (by exact ⟨hV6, fun _ _ hb => hV6.cell hb⟩) (fun hHeld6 => ?_)
            clear hK K
            (try simp only [List.getElem_toArray]); (try simp only [List.getElem_cons_succ]); (try simp only [List.getElem_cons_zero]); (try simp only [Act.put]); (try simp only [List.setIfInBounds_toArray]); (try simp only [List.set_cons_succ]); (try simp only [List.set_cons_zero])
            refine wpAnyH_ready (rs := [23]) (by kernel_rfl) (by simp) ?_
            refine AllReadyH.cons rfl (fun K hK => ?_) AllReadyH.nil
            go_simp
            go_at_call 9
            refine (sameInts_up (hO44.ri.up hb405) hO45.ri (by omega)).mono ?_
            rintro e w406 ⟨rfl, hb406⟩
            have hV7 := Up.then_ hV6 hb406
            go_wp2_with fail
            refine hK.out _ _ (by exact ⟨hV7, fun _ _ hb => hV7.cell hb⟩) (fun hHeld7 => ?_)
            clear hK K
            (try simp only [List.getElem_toArray]); (try simp only [List.getElem_cons_succ]); (try simp only [List.getElem_cons_zero]); (try simp only [Act.put]); (try simp only [List.setIfInBounds_toArray]); (try simp only [List.set_cons_succ]); (try simp only [List.set_cons_zero])
            refine wpAnyH_take (i := 24) (v := ?_) rfl (by kernel_rfl) (by kernel_rfl) (by kernel_rfl) (fun _ _ _ h => h) (Or.inl ⟨by rfl, ?_⟩) (by assumption) ?_
            rotate_left
            · (intro w' hSw; go_simp; try with_reducible rfl)
            (try simp only [List.getElem_toArray]); (try simp only [List.getElem_cons_succ]); (try simp only [List.getElem_cons_zero]); (try simp only [Act.put]); (try simp only [List.setIfInBounds_toArray]); (try simp only [List.set_cons_succ]); (try simp only [List.set_cons_zero])
            refine wpAnyH_take (i := 25) (v := ?_) rfl (by kernel_rfl) (by kernel_rfl) (by kernel_rfl) (fun _ _ _ h => h) (Or.inl ⟨by rfl, ?_⟩) (by assumption) ?_
            rotate_left
            · (intro w' hSw; go_simp; try with_reducible rfl)
            (try simp only [List.getElem_toArray]); (try simp only [List.getElem_cons_succ]); (try simp only [List.getElem_cons_zero]); (try simp only [Act.put]); (try simp only [List.setIfInBounds_toArray]); (try simp only [List.set_cons_succ]); (try simp only [List.set_cons_zero])
            refine wpAnyH_take (i := 26) (v := ?_) rfl (by kernel_rfl) (by kernel_rfl) (by kernel_rfl) (fun _ _ _ h => h) (Or.inl ⟨by rfl, ?_⟩) (by assumption) ?_
            rotate_left
            · (intro w' hSw; go_simp; try with_reducible rfl)
            (try simp only [List.getElem_toArray]); (try simp only [List.getElem_cons_succ]); (try simp only [List.getElem_cons_zero]); (try simp only [Act.put]); (try simp only [List.setIfInBounds_toArray]); (try simp only [List.set_cons_succ]); (try simp only [List.set_cons_zero])
            refine wpAnyH_take (i := 27) (v := ?_) rfl (by kernel_rfl) (by kernel_rfl) (by kernel_rfl) (fun _ _ _ h => h) (Or.inl ⟨by rfl, ?_⟩) (by assumption) ?_
            rotate_left
            · (intro w' hSw; go_simp; try with_reducible rfl)
            (try simp only [List.getElem_toArray]); (try simp only [List.getElem_cons_succ]); (try simp only [List.getElem_cons_zero]); (try simp only [Act.put]); (try simp only [List.setIfInBounds_toArray]); (try simp only [List.set_cons_succ]); (try simp only [List.set_cons_zero])
            refine wpAnyH_take (i := 29) (v := ?_) rfl (by kernel_rfl) (by kernel_rfl) (by kernel_rfl) (fun _ _ _ h => h) (Or.inl ⟨by rfl, ?_⟩) (by assumption) ?_
            rotate_left
            · (intro w' hSw; go_simp; try with_reducible rfl)
            (try simp only [List.getElem_toArray]); (try simp only [List.getElem_cons_succ]); (try simp only [List.getElem_cons_zero]); (try simp only [Act.put]); (try simp only [List.setIfInBounds_toArray]); (try simp only [List.set_cons_succ]); (try simp only [List.set_cons_zero])
            refine wpAnyH_take (i := 30) (v := ?_) rfl (by kernel_rfl) (by kernel_rfl) (by kernel_rfl) (fun _ _ _ h => h) (Or.inl ⟨by rfl, ?_⟩) (by assumption) ?_
            rotate_left
            · (intro w' hSw; go_simp; try with_reducible rfl)
            (try simp only [List.getElem_toArray]); (try simp only [List.getElem_cons_succ]); (try simp only [List.getElem_cons_zero]); (try simp only [Act.put]); (try simp only [List.setIfInBounds_toArray]); (try simp only [List.set_cons_succ]); (try simp only [List.set_cons_zero])
            refine wpAnyH_ready (rs := [28]) (by kernel_rfl) (by simp) ?_
            refine AllReadyH.cons rfl (fun K hK => ?_) AllReadyH.nil
            go_simp
            go_at_call 32
            refine (implIsLexElimination_any N6 s6 P6 m6 d6 X6 _ (hP6.up hV7) (by omega)).mono ?_
            rintro e w407 ⟨rfl, hb407⟩
            have hV8 := Up.then_ hV7 hb407
            go_wp2_with fail
            refine hK.out _ _ (by exact ⟨hV8, fun _ _ hb => hV8.cell hb⟩) (fun hHeld8 => ?_)
            clear hK K
            (try simp only [List.getElem_toArray]); (try simp only [List.getElem_cons_succ]); (try simp only [List.getElem_cons_zero]); (try simp only [Act.put]); (try simp only [List.setIfInBounds_toArray]); (try simp only [List.set_cons_succ]); (try simp only [List.set_cons_zero])
            refine wpAnyH_ready (rs := [31]) (by kernel_rfl) (by simp) ?_
            refine AllReadyH.cons rfl (fun K hK => ?_) AllReadyH.nil
            go_simp
            go_at_call 46
            refine (specIsLexElimination_any N6 s6 P6 m6 d6 X6 _ (hP6.up hV8) (by omega)).mono ?_
            rintro e w408 ⟨rfl, hb408⟩
            have hV9 := Up.then_ hV8 hb408
            go_wp2_with fail
            refine hK.out _ _ (by exact ⟨hV9, fun _ _ hb => hV9.cell hb⟩) (fun hHeld9 => ?_)
            clear hK K
            (try simp only [List.getElem_toArray]); (try simp only [List.getElem_cons_succ]); (try simp only [List.getElem_cons_zero]); (try simp only [Act.put]); (try simp only [List.setIfInBounds_toArray]); (try simp only [List.set_cons_succ]); (try simp only [List.set_cons_zero])
            refine wpAnyH_take (i := 32) (v := ?_) rfl (by kernel_rfl) (by kernel_rfl) (by kernel_rfl) (fun _ _ _ h => h) (Or.inl ⟨by rfl, ?_⟩) (by assumption) ?_
            rotate_left
            · (intro w' hSw; go_simp; try with_reducible rfl)
            (try simp only [List.getElem_toArray]); (try simp only [List.getElem_cons_succ]); (try simp only [List.getElem_cons_zero]); (try simp only [Act.put]); (try simp only [List.setIfInBounds_toArray]); (try simp only [List.set_cons_succ]); (try simp only [List.set_cons_zero])
            refine wpAnyH_take (i := 33) (v := ?_) rfl (by kernel_rfl) (by kernel_rfl) (by kernel_rfl) (fun _ _ _ h => h) (Or.inl ⟨by rfl, ?_⟩) (by assumption) ?_
            rotate_left
            · (intro w' hSw; go_simp; try with_reducible rfl)
            (try simp only [List.getElem_toArray]); (try simp only [List.getElem_cons_succ]); (try simp only [List.getElem_cons_zero]); (try simp only [Act.put]); (try simp only [List.setIfInBounds_toArray]); (try simp only [List.set_cons_succ]); (try simp only [List.set_cons_zero])
            refine wpAnyH_take (i := 34) (v := ?_) rfl (by kernel_rfl) (by kernel_rfl) (by kernel_rfl) (fun _ _ _ h => h) (Or.inl ⟨by rfl, ?_⟩) (by assumption) ?_
            rotate_left
            · (intro w' hSw; go_simp; try with_reducible rfl)
            (try simp only [List.getElem_toArray]); (try simp only [List.getElem_cons_succ]); (try simp only [List.getElem_cons_zero]); (try simp only [Act.put]); (try simp only [List.setIfInBounds_toArray]); (try simp only [List.set_cons_succ]); (try simp only [List.set_cons_zero])
            refine wpAnyH_done (by kernel_rfl) ?_ _
            have hU40 := hV9
            go_wp2
            go_ret
            exact ⟨rfl, Up.then_ hw37 hU40⟩
          · have HEL : ∀ w', RI w' P2 m2 X2 → RI w' L2 xs.length xs → Calls Try.prog 30 #[.agg #[.int .i64 N2, .slice P2 m2 d2], .slice L2 xs.length e2] w' (fun e w'' => e = .returned (.bool (decide (fl.length = 0))) ∧ Below w'.heap.size w' w'') := fun w' h h2 => by rw [← HEF.out rfl]; exact implIsElimination_any N2 P2 L2 m2 d2 xs.length e2 X2 xs w' h h2 (by omega) (by omega) hcap2.1
            clear HEF
            obtain ⟨bz, hbz⟩ : ∃ bz, bz = decide (fl.length = 0) := ⟨_, rfl⟩
            have hbz2 : ((fl.length : Int) == 0) = bz := by rw [hbz, Bool.eq_iff_iff, beq_iff_eq, decide_eq_true_eq]; omega
            rw [← hbz] at HEL
            clear hbz
            go_wp2_with fail
            refine (HEL _ hP2 hQ2).mono ?_
            rintro e w25 ⟨rfl, hb25⟩
            have hU25 : Up w24 w25 := Up.then_ (by go_grown) hb25
            replace hB := hB.up hU25
            replace hG2 := hG2.up hU25
            replace hP2 := hP2.up hU25
            replace hQ2 := hQ2.up hU25
            replace yhG2 := hG2.two
            replace lhG2 := hG2.lt
            have hw25 := Up.then_ hw24 hU25
            clear HEL hw24
            clear hP2 hQ2 hG2 yhG2 lhG2
            have hlow30 : ∀ ad, B = some ad → ad.block < w25.heap.size := fun ad e => by have := hlow ad e; have := hw25.size; omega
            go_wp2_with fail
            refine (drawIsElimination_any B n c bs _ hB hs hlow30).mono ?_
            rintro e w30 ⟨N3, P3, m3, d3, X3, L3, e3, ys, rfl, hX3, hle3, hL3, hl3, hb30⟩
            have hU30 : Up w25 w30 := Up.then_ (by go_grown) hb30
            replace hB := hB.up hU30
            have hw30 := Up.then_ hw25 hU30
            have hm3 : m3 ≤ 6 := by rw [← hX3.len]; exact hle3
            have hcap3 := hL3.cap
            have hG3 := Blk.new w30 26 #[.int .i64 N3, .slice P3 m3 d3]
            have hU31 : Up w30 (w30.alloc (.cells #[.int .i64 N3, .slice P3 m3 d3] 26)) := by go_grown
            have hw31 := Up.then_ hw30 hU31
            have hP3 := hX3.ri.up hU31
            have hQ3 := hL3.ri.up hU31
            replace hB := hB.up hU31
            obtain ⟨g3, hg3⟩ : ∃ g3, g3 = w30.heap.size := ⟨_, rfl⟩
            rw [← hg3] at hG3
            go_wp2_with fail
            rw [← hg3]
            generalize w30.alloc (.cells #[.int .i64 N3, .slice P3 m3 d3] 26) = w31 at hG3 hP3 hQ3 hB hw31 ⊢
            have hlow31 : ∀ ad, B = some ad → ad.block < w31.heap.size := fun ad e => by have := hlow ad e; have := hw31.size; omega
            clear hg3 hU30 hU31 hb30 hX3 hL3 hw30 hle3
            refine (drawLaterNeighbours_any B n c bs _ hB hs hlow31).mono ?_
            rintro e w32 ⟨N4, P4, m4, d4, X4, L4, e4, zs, v4, rfl, hX4, hle4, hL4, hl4, hv41, hv42, hb32⟩
            have hU32 : Up w31 w32 := hb32
            replace hB := hB.up hU32
            replace hG3 := hG3.up hU32
            replace hP3 := hP3.up hU32
            replace hQ3 := hQ3.up hU32
            have hw32 := Up.then_ hw31 hU32
            have hm4 : m4 ≤ 6 := by rw [← hX4.len]; exact hle4
            have hcap4 := hL4.cap
            have hG4 := Blk.new w32 26 #[.int .i64 N4, .slice P4 m4 d4]
            have hU33 : Up w32 (w32.alloc (.cells #[.int .i64 N4, .slice P4 m4 d4] 26)) := by go_grown
            have hw33 := Up.then_ hw32 hU33
            have hP4 := hX4.ri.up hU33
            have hQ4 := hL4.ri.up hU33
            replace hB := hB.up hU33
            replace hG3 := hG3.up hU33
            replace hP3 := hP3.up hU33
            replace hQ3 := hQ3.up hU33
            obtain ⟨g4, hg4⟩ : ∃ g4, g4 = w32.heap.size := ⟨_, rfl⟩
            rw [← hg4] at hG4
            go_wp2_with fail
            rw [← hg4]
            generalize w32.alloc (.cells #[.int .i64 N4, .slice P4 m4 d4] 26) = w33 at hG4 hP4 hQ4 hB hG3 hP3 hQ3 hw33 ⊢
            have hlow33 : ∀ ad, B = some ad → ad.block < w33.heap.size := fun ad e => by have := hlow ad e; have := hw33.size; omega
            clear hg4 hU32 hU33 hb32 hX4 hL4 hw32 hle4 hw31
            refine (drawSimplicialOf_any B n c bs _ hB hs hlow33).mono ?_
            rintro e w34 ⟨N5, P5, m5, d5, X5, rfl, hX5, hle5, hb34⟩
            have hU34 : Up w33 w34 := hb34
            replace hB := hB.up hU34
            replace hG3 := hG3.up hU34
            replace hP3 := hP3.up hU34
            replace hQ3 := hQ3.up hU34
            replace hG4 := hG4.up hU34
            replace hP4 := hP4.up hU34
            replace hQ4 := hQ4.up hU34
            have hw34 := Up.then_ hw33 hU34
            have hm5 : m5 ≤ 6 := by rw [← hX5.len]; exact hle5
            have hG5 := Blk.new w34 26 #[.int .i64 N5, .slice P5 m5 d5]
            have hU35 : Up w34 (w34.alloc (.cells #[.int .i64 N5, .slice P5 m5 d5] 26)) := by go_grown
            have hw35 := Up.then_ hw34 hU35
            have hP5 := hX5.ri.up hU35
            replace hB := hB.up hU35
            replace hG3 := hG3.up hU35
            replace hP3 := hP3.up hU35
            replace hQ3 := hQ3.up hU35
            replace hG4 := hG4.up hU35
            replace hP4 := hP4.up hU35
            replace hQ4 := hQ4.up hU35
            obtain ⟨g5, hg5⟩ : ∃ g5, g5 = w34.heap.size := ⟨_, rfl⟩
            rw [← hg5] at hG5
            go_wp2_with fail
            rw [← hg5]
            generalize w34.alloc (.cells #[.int .i64 N5, .slice P5 m5 d5] 26) = w35 at hG5 hP5 hB hG3 hP3 hQ3 hG4 hP4 hQ4 hw35 ⊢
            have hlow35 : ∀ ad, B = some ad → ad.block < w35.heap.size := fun ad e => by have := hlow ad e; have := hw35.size; omega
            clear hg5 hU34 hU35 hb34 hX5 hw34 hle5 hw33
            refine (drawIsLexElimination_any B n c bs _ hB hs hlow35).mono ?_
            rintro e w36 ⟨N6, P6, m6, d6, X6, s6, rfl, hX6, hle6, hs61, hs62, hb36⟩
            have hU36 : Up w35 w36 := hb36
            replace hB := hB.up hU36
            replace hG3 := hG3.up hU36
            replace hP3 := hP3.up hU36
            replace hQ3 := hQ3.up hU36
            replace hG4 := hG4.up hU36
            replace hP4 := hP4.up hU36
            replace hQ4 := hQ4.up hU36
            replace hG5 := hG5.up hU36
            replace hP5 := hP5.up hU36
            have hw36 := Up.then_ hw35 hU36
            have hm6' : m6 ≤ 6 := by rw [← hX6.len]; exact hle6
            have hG6 := Blk.new w36 26 #[.int .i64 N6, .slice P6 m6 d6]
            have hU37 : Up w36 (w36.alloc (.cells #[.int .i64 N6, .slice P6 m6 d6] 26)) := by go_grown
            have hw37 := Up.then_ hw36 hU37
            have hP6 := hX6.ri.up hU37
            replace hG3 := hG3.up hU37
            replace hP3 := hP3.up hU37
            replace hQ3 := hQ3.up hU37
            replace hG4 := hG4.up hU37
            replace hP4 := hP4.up hU37
            replace hQ4 := hQ4.up hU37
            replace hG5 := hG5.up hU37
            replace hP5 := hP5.up hU37
            obtain ⟨g6, hg6⟩ : ∃ g6, g6 = w36.heap.size := ⟨_, rfl⟩
            rw [← hg6] at hG6
            go_wp2_with fail
            rw [← hg6]
            generalize w36.alloc (.cells #[.int .i64 N6, .slice P6 m6 d6] 26) = w37 at hG6 hP6 hG3 hP3 hQ3 hG4 hP4 hQ4 hG5 hP5 hw37 ⊢
            clear hg6 hU36 hU37 hb36 hX6 hw36 hle6 hw35 hlow31 hlow33 hlow35 hB
            have yhG3 := hG3.two
            have lhG3 := hG3.lt
            have yhG4 := hG4.two
            have lhG4 := hG4.lt
            have yhG5 := hG5.two
            have lhG5 := hG5.lt
            have yhG6 := hG6.two
            have lhG6 := hG6.lt
            obtain ⟨s5, hs5⟩ : ∃ s5, s5 = simpL N5 X5 := ⟨_, rfl⟩
            have hs5l : s5.length ≤ 7 := by rw [hs5]; exact simpL_small N5 X5
            have HSI : ∀ w', RI w' P5 m5 X5 → Calls Try.prog 34 #[.agg #[.int .i64 N5, .slice P5 m5 d5]] w' (GivesI s5 w') := fun w' h => by rw [hs5]; exact implSimplicialOf_any N5 P5 m5 d5 X5 w' h (by omega)
            have HSS : ∀ w', RI w' P5 m5 X5 → Calls Try.prog 45 #[.agg #[.int .i64 N5, .slice P5 m5 d5]] w' (GivesI s5 w') := fun w' h => by rw [hs5]; exact specSimplicialOf_any N5 P5 m5 d5 X5 w' h (by omega)
            clear hs5
            have hV0 : Up w37 w37.drew := (Up.refl _).drew
            refine wp_region_held_drew (S := (fun w' => Up w37 w' ∧ (∀ b o, b < w37.heap.size → w'.cell? ⟨b, o, none⟩ = w37.cell? ⟨b, o, none⟩))) (by kernel_rfl) (by exact ⟨hV0, fun _ _ hb => hV0.cell hb⟩) (fun hHeld => ?_)
            refine wpAnyH_take (i := 0) (v := ?_) rfl (by kernel_rfl) (by kernel_rfl) (by kernel_rfl) (fun _ _ _ h => h) (Or.inl ⟨by rfl, ?_⟩) (by assumption) ?_
            rotate_left
            · (intro w' hSw; go_simp; try with_reducible rfl)
            (try simp only [List.getElem_toArray]); (try simp only [List.getElem_cons_succ]); (try simp only [List.getElem_cons_zero]); (try simp only [Act.put]); (try simp only [List.setIfInBounds_toArray]); (try simp only [List.set_cons_succ]); (try simp only [List.set_cons_zero])
            refine wpAnyH_take (i := 1) (v := ?_) rfl (by kernel_rfl) (by kernel_rfl) (by kernel_rfl) (fun _ _ _ h => h) (Or.inl ⟨by rfl, ?_⟩) (by assumption) ?_
            rotate_left
            · (intro w' hSw; go_simp; try with_reducible rfl)
            (try simp only [List.getElem_toArray]); (try simp only [List.getElem_cons_succ]); (try simp only [List.getElem_cons_zero]); (try simp only [Act.put]); (try simp only [List.setIfInBounds_toArray]); (try simp only [List.set_cons_succ]); (try simp only [List.set_cons_zero])
            refine wpAnyH_take (i := 3) (v := ?_) rfl (by kernel_rfl) (by kernel_rfl) (by kernel_rfl) (fun _ _ _ h => h) (Or.inl ⟨by rfl, ?_⟩) (by assumption) ?_
            rotate_left
            · (intro w' hSw; go_simp; try with_reducible rfl)
            (try simp only [List.getElem_toArray]); (try simp only [List.getElem_cons_succ]); (try simp only [List.getElem_cons_zero]); (try simp only [Act.put]); (try simp only [List.setIfInBounds_toArray]); (try simp only [List.set_cons_succ]); (try simp only [List.set_cons_zero])
            refine wpAnyH_take (i := 4) (v := ?_) rfl (by kernel_rfl) (by kernel_rfl) (by kernel_rfl) (fun _ _ _ h => h) (Or.inl ⟨by rfl, ?_⟩) (by assumption) ?_
            rotate_left
            · (intro w' hSw; go_simp; try with_reducible rfl)
            (try simp only [List.getElem_toArray]); (try simp only [List.getElem_cons_succ]); (try simp only [List.getElem_cons_zero]); (try simp only [Act.put]); (try simp only [List.setIfInBounds_toArray]); (try simp only [List.set_cons_succ]); (try simp only [List.set_cons_zero])
            refine wpAnyH_ready (rs := [2]) (by kernel_rfl) (by simp) ?_
            refine AllReadyH.cons rfl (fun K hK => ?_) AllReadyH.nil
            go_simp
            go_at_call 30
            refine (implIsElimination_any N3 P3 L3 m3 d3 ys.length e3 X3 ys _ (hP3.up hV0) (hQ3.up hV0) (by omega) (by omega) hcap3.1).mono ?_
            rintro e w400 ⟨rfl, hb400⟩
            have hV1 := Up.then_ hV0 hb400
            go_wp2_with fail
            refine hK.out _ _ (by exact ⟨hV1, fun _ _ hb => hV1.cell hb⟩) (fun hHeld1 => ?_)
            clear hK K
            (try simp only [List.getElem_toArray]); (try simp only [List.getElem_cons_succ]); (try simp only [List.getElem_cons_zero]); (try simp only [Act.put]); (try simp only [List.setIfInBounds_toArray]); (try simp only [List.set_cons_succ]); (try simp only [List.set_cons_zero])
            refine wpAnyH_ready (rs := [5]) (by kernel_rfl) (by simp) ?_
            refine AllReadyH.cons rfl (fun K hK => ?_) AllReadyH.nil
            go_simp
            go_at_call 42
            refine (specIsElimination_any N3 P3 L3 m3 d3 ys.length e3 X3 ys _ (hP3.up hV1) (hQ3.up hV1) (by omega) (by omega)).mono ?_
            rintro e w401 ⟨rfl, hb401⟩
            have hV2 := Up.then_ hV1 hb401
            go_wp2_with fail
            refine hK.out _ _ (by exact ⟨hV2, fun _ _ hb => hV2.cell hb⟩) (fun hHeld2 => ?_)
            clear hK K
            (try simp only [List.getElem_toArray]); (try simp only [List.getElem_cons_succ]); (try simp only [List.getElem_cons_zero]); (try simp only [Act.put]); (try simp only [List.setIfInBounds_toArray]); (try simp only [List.set_cons_succ]); (try simp only [List.set_cons_zero])
            refine wpAnyH_take (i := 6) (v := ?_) rfl (by kernel_rfl) (by kernel_rfl) (by kernel_rfl) (fun _ _ _ h => h) (Or.inl ⟨by rfl, ?_⟩) (by assumption) ?_
            rotate_left
            · (intro w' hSw; go_simp; try with_reducible rfl)
            (try simp only [List.getElem_toArray]); (try simp only [List.getElem_cons_succ]); (try simp only [List.getElem_cons_zero]); (try simp only [Act.put]); (try simp only [List.setIfInBounds_toArray]); (try simp only [List.set_cons_succ]); (try simp only [List.set_cons_zero])
            refine wpAnyH_take (i := 7) (v := ?_) rfl (by kernel_rfl) (by kernel_rfl) (by kernel_rfl) (fun _ _ _ h => h) (Or.inl ⟨by rfl, ?_⟩) (by assumption) ?_
            rotate_left
            · (intro w' hSw; go_simp; try with_reducible rfl)
            (try simp only [List.getElem_toArray]); (try simp only [List.getElem_cons_succ]); (try simp only [List.getElem_cons_zero]); (try simp only [Act.put]); (try simp only [List.setIfInBounds_toArray]); (try simp only [List.set_cons_succ]); (try simp only [List.set_cons_zero])
            refine wpAnyH_take (i := 8) (v := ?_) rfl (by kernel_rfl) (by kernel_rfl) (by kernel_rfl) (fun _ _ _ h => h) (Or.inl ⟨by rfl, ?_⟩) (by assumption) ?_
            rotate_left
            · (intro w' hSw; go_simp; try with_reducible rfl)
            (try simp only [List.getElem_toArray]); (try simp only [List.getElem_cons_succ]); (try simp only [List.getElem_cons_zero]); (try simp only [Act.put]); (try simp only [List.setIfInBounds_toArray]); (try simp only [List.set_cons_succ]); (try simp only [List.set_cons_zero])
            refine wpAnyH_take (i := 9) (v := ?_) rfl (by kernel_rfl) (by kernel_rfl) (by kernel_rfl) (fun _ _ _ h => h) (Or.inl ⟨by rfl, ?_⟩) (by assumption) ?_
            rotate_left
            · (intro w' hSw; go_simp; try with_reducible rfl)
            (try simp only [List.getElem_toArray]); (try simp only [List.getElem_cons_succ]); (try simp only [List.getElem_cons_zero]); (try simp only [Act.put]); (try simp only [List.setIfInBounds_toArray]); (try simp only [List.set_cons_succ]); (try simp only [List.set_cons_zero])
            refine wpAnyH_take (i := 10) (v := ?_) rfl (by kernel_rfl) (by kernel_rfl) (by kernel_rfl) (fun _ _ _ h => h) (Or.inl ⟨by rfl, ?_⟩) (by assumption) ?_
            rotate_left
            · (intro w' hSw; go_simp; try with_reducible rfl)
            (try simp only [List.getElem_toArray]); (try simp only [List.getElem_cons_succ]); (try simp only [List.getElem_cons_zero]); (try simp only [Act.put]); (try simp only [List.setIfInBounds_toArray]); (try simp only [List.set_cons_succ]); (try simp only [List.set_cons_zero])
            refine wpAnyH_take (i := 12) (v := ?_) rfl (by kernel_rfl) (by kernel_rfl) (by kernel_rfl) (fun _ _ _ h => h) (Or.inl ⟨by rfl, ?_⟩) (by assumption) ?_
            rotate_left
            · (intro w' hSw; go_simp; try with_reducible rfl)
            (try simp only [List.getElem_toArray]); (try simp only [List.getElem_cons_succ]); (try simp only [List.getElem_cons_zero]); (try simp only [Act.put]); (try simp only [List.setIfInBounds_toArray]); (try simp only [List.set_cons_succ]); (try simp only [List.set_cons_zero])
            refine wpAnyH_take (i := 13) (v := ?_) rfl (by kernel_rfl) (by kernel_rfl) (by kernel_rfl) (fun _ _ _ h => h) (Or.inl ⟨by rfl, ?_⟩) (by assumption) ?_
            rotate_left
            · (intro w' hSw; go_simp; try with_reducible rfl)
            (try simp only [List.getElem_toArray]); (try simp only [List.getElem_cons_succ]); (try simp only [List.getElem_cons_zero]); (try simp only [Act.put]); (try simp only [List.setIfInBounds_toArray]); (try simp only [List.set_cons_succ]); (try simp only [List.set_cons_zero])
            refine wpAnyH_take (i := 14) (v := ?_) rfl (by kernel_rfl) (by kernel_rfl) (by kernel_rfl) (fun _ _ _ h => h) (Or.inl ⟨by rfl, ?_⟩) (by assumption) ?_
            rotate_left
            · (intro w' hSw; go_simp; try with_reducible rfl)
            (try simp only [List.getElem_toArray]); (try simp only [List.getElem_cons_succ]); (try simp only [List.getElem_cons_zero]); (try simp only [Act.put]); (try simp only [List.setIfInBounds_toArray]); (try simp only [List.set_cons_succ]); (try simp only [List.set_cons_zero])
            refine wpAnyH_ready (rs := [11]) (by kernel_rfl) (by simp) ?_
            refine AllReadyH.cons rfl (fun K hK => ?_) AllReadyH.nil
            go_simp
            go_at_call 43
            refine (implLater_any N4 v4 P4 L4 m4 d4 zs.length e4 X4 zs _ (hP4.up hV2) (hQ4.up hV2) (by omega) (by omega) hcap4.1).mono ?_
            rintro e w402 ⟨rfl, hb402⟩
            have hV3 := Up.then_ hV2 hb402
            go_wp2_with fail
            refine hK.out _ _ (by exact ⟨hV3, fun _ _ hb => hV3.cell hb⟩) (fun hHeld3 => ?_)
            clear hK K
            (try simp only [List.getElem_toArray]); (try simp only [List.getElem_cons_succ]); (try simp only [List.getElem_cons_zero]); (try simp only [Act.put]); (try simp only [List.setIfInBounds_toArray]); (try simp only [List.set_cons_succ]); (try simp only [List.set_cons_zero])
            refine wpAnyH_ready (rs := [15]) (by kernel_rfl) (by simp) ?_
            refine AllReadyH.cons rfl (fun K hK => ?_) AllReadyH.nil
            go_simp
            go_at_call 44
            refine (specLater_any N4 v4 P4 L4 m4 d4 zs.length e4 X4 zs _ (hP4.up hV3) (hQ4.up hV3) (by omega) (by omega)).mono ?_
            rintro e w403 ⟨rfl, hb403⟩
            have hV4 := Up.then_ hV3 hb403
            go_wp2_with fail
            refine hK.out _ _ (by exact ⟨hV4, fun _ _ hb => hV4.cell hb⟩) (fun hHeld4 => ?_)
            clear hK K
            (try simp only [List.getElem_toArray]); (try simp only [List.getElem_cons_succ]); (try simp only [List.getElem_cons_zero]); (try simp only [Act.put]); (try simp only [List.setIfInBounds_toArray]); (try simp only [List.set_cons_succ]); (try simp only [List.set_cons_zero])
            refine wpAnyH_take (i := 16) (v := ?_) rfl (by kernel_rfl) (by kernel_rfl) (by kernel_rfl) (fun _ _ _ h => h) (Or.inl ⟨by rfl, ?_⟩) (by assumption) ?_
            rotate_left
            · (intro w' hSw; go_simp; try with_reducible rfl)
            (try simp only [List.getElem_toArray]); (try simp only [List.getElem_cons_succ]); (try simp only [List.getElem_cons_zero]); (try simp only [Act.put]); (try simp only [List.setIfInBounds_toArray]); (try simp only [List.set_cons_succ]); (try simp only [List.set_cons_zero])
            refine wpAnyH_take (i := 17) (v := ?_) rfl (by kernel_rfl) (by kernel_rfl) (by kernel_rfl) (fun _ _ _ h => h) (Or.inl ⟨by rfl, ?_⟩) (by assumption) ?_
            rotate_left
            · (intro w' hSw; go_simp; try with_reducible rfl)
            (try simp only [List.getElem_toArray]); (try simp only [List.getElem_cons_succ]); (try simp only [List.getElem_cons_zero]); (try simp only [Act.put]); (try simp only [List.setIfInBounds_toArray]); (try simp only [List.set_cons_succ]); (try simp only [List.set_cons_zero])
            refine wpAnyH_take (i := 18) (v := ?_) rfl (by kernel_rfl) (by kernel_rfl) (by kernel_rfl) (fun _ _ _ h => h) (Or.inl ⟨by rfl, ?_⟩) (by assumption) ?_
            rotate_left
            · (intro w' hSw; go_simp; try with_reducible rfl)
            (try simp only [List.getElem_toArray]); (try simp only [List.getElem_cons_succ]); (try simp only [List.getElem_cons_zero]); (try simp only [Act.put]); (try simp only [List.setIfInBounds_toArray]); (try simp only [List.set_cons_succ]); (try simp only [List.set_cons_zero])
            refine wpAnyH_take (i := 19) (v := ?_) rfl (by kernel_rfl) (by kernel_rfl) (by kernel_rfl) (fun _ _ _ h => h) (Or.inl ⟨by rfl, ?_⟩) (by assumption) ?_
            rotate_left
            · (intro w' hSw; go_simp; try with_reducible rfl)
            (try simp only [List.getElem_toArray]); (try simp only [List.getElem_cons_succ]); (try simp only [List.getElem_cons_zero]); (try simp only [Act.put]); (try simp only [List.setIfInBounds_toArray]); (try simp only [List.set_cons_succ]); (try simp only [List.set_cons_zero])
            refine wpAnyH_take (i := 21) (v := ?_) rfl (by kernel_rfl) (by kernel_rfl) (by kernel_rfl) (fun _ _ _ h => h) (Or.inl ⟨by rfl, ?_⟩) (by assumption) ?_
            rotate_left
            · (intro w' hSw; go_simp; try with_reducible rfl)
            (try simp only [List.getElem_toArray]); (try simp only [List.getElem_cons_succ]); (try simp only [List.getElem_cons_zero]); (try simp only [Act.put]); (try simp only [List.setIfInBounds_toArray]); (try simp only [List.set_cons_succ]); (try simp only [List.set_cons_zero])
            refine wpAnyH_ready (rs := [20]) (by kernel_rfl) (by simp) ?_
            refine AllReadyH.cons rfl (fun K hK => ?_) AllReadyH.nil
            go_simp
            go_at_call 34
            refine (HSI _ (hP5.up hV4)).mono ?_
            rintro e w404 ⟨A44, c44, rfl, hO44, hb404⟩
            have hV5 := Up.then_ hV4 hb404
            go_wp2_with fail
            refine hK.out _ _ (by exact ⟨hV5, fun _ _ hb => hV5.cell hb⟩) (fun hHeld5 => ?_)
            clear hK K
            (try simp only [List.getElem_toArray]); (try simp only [List.getElem_cons_succ]); (try simp only [List.getElem_cons_zero]); (try simp only [Act.put]); (try simp only [List.setIfInBounds_toArray]); (try simp only [List.set_cons_succ]); (try simp only [List.set_cons_zero])
            refine wpAnyH_ready (rs := [22]) (by kernel_rfl) (by simp) ?_
            refine AllReadyH.cons rfl (fun K hK => ?_) AllReadyH.nil
            go_simp
            go_at_call 45
            refine (HSS _ (hP5.up hV5)).mono ?_
            rintro e w405 ⟨A45, c45, rfl, hO45, hb405⟩
            have hV6 := Up.then_ hV5 hb405
            go_wp2_with fail
            refine hK.out _ _ (by exact ⟨hV6, fun _ _ hb => hV6.cell hb⟩) (fun hHeld6 => ?_)
            clear hK K
            (try simp only [List.getElem_toArray]); (try simp only [List.getElem_cons_succ]); (try simp only [List.getElem_cons_zero]); (try simp only [Act.put]); (try simp only [List.setIfInBounds_toArray]); (try simp only [List.set_cons_succ]); (try simp only [List.set_cons_zero])
            refine wpAnyH_ready (rs := [23]) (by kernel_rfl) (by simp) ?_
            refine AllReadyH.cons rfl (fun K hK => ?_) AllReadyH.nil
            go_simp
            go_at_call 9
            refine (sameInts_up (hO44.ri.up hb405) hO45.ri (by omega)).mono ?_
            rintro e w406 ⟨rfl, hb406⟩
            have hV7 := Up.then_ hV6 hb406
            go_wp2_with fail
            refine hK.out _ _ (by exact ⟨hV7, fun _ _ hb => hV7.cell hb⟩) (fun hHeld7 => ?_)
            clear hK K
            (try simp only [List.getElem_toArray]); (try simp only [List.getElem_cons_succ]); (try simp only [List.getElem_cons_zero]); (try simp only [Act.put]); (try simp only [List.setIfInBounds_toArray]); (try simp only [List.set_cons_succ]); (try simp only [List.set_cons_zero])
            refine wpAnyH_take (i := 24) (v := ?_) rfl (by kernel_rfl) (by kernel_rfl) (by kernel_rfl) (fun _ _ _ h => h) (Or.inl ⟨by rfl, ?_⟩) (by assumption) ?_
            rotate_left
            · (intro w' hSw; go_simp; try with_reducible rfl)
            (try simp only [List.getElem_toArray]); (try simp only [List.getElem_cons_succ]); (try simp only [List.getElem_cons_zero]); (try simp only [Act.put]); (try simp only [List.setIfInBounds_toArray]); (try simp only [List.set_cons_succ]); (try simp only [List.set_cons_zero])
            refine wpAnyH_take (i := 25) (v := ?_) rfl (by kernel_rfl) (by kernel_rfl) (by kernel_rfl) (fun _ _ _ h => h) (Or.inl ⟨by rfl, ?_⟩) (by assumption) ?_
            rotate_left
            · (intro w' hSw; go_simp; try with_reducible rfl)
            (try simp only [List.getElem_toArray]); (try simp only [List.getElem_cons_succ]); (try simp only [List.getElem_cons_zero]); (try simp only [Act.put]); (try simp only [List.setIfInBounds_toArray]); (try simp only [List.set_cons_succ]); (try simp only [List.set_cons_zero])
            refine wpAnyH_take (i := 26) (v := ?_) rfl (by kernel_rfl) (by kernel_rfl) (by kernel_rfl) (fun _ _ _ h => h) (Or.inl ⟨by rfl, ?_⟩) (by assumption) ?_
            rotate_left
            · (intro w' hSw; go_simp; try with_reducible rfl)
            (try simp only [List.getElem_toArray]); (try simp only [List.getElem_cons_succ]); (try simp only [List.getElem_cons_zero]); (try simp only [Act.put]); (try simp only [List.setIfInBounds_toArray]); (try simp only [List.set_cons_succ]); (try simp only [List.set_cons_zero])
            refine wpAnyH_take (i := 27) (v := ?_) rfl (by kernel_rfl) (by kernel_rfl) (by kernel_rfl) (fun _ _ _ h => h) (Or.inl ⟨by rfl, ?_⟩) (by assumption) ?_
            rotate_left
            · (intro w' hSw; go_simp; try with_reducible rfl)
            (try simp only [List.getElem_toArray]); (try simp only [List.getElem_cons_succ]); (try simp only [List.getElem_cons_zero]); (try simp only [Act.put]); (try simp only [List.setIfInBounds_toArray]); (try simp only [List.set_cons_succ]); (try simp only [List.set_cons_zero])
            refine wpAnyH_take (i := 29) (v := ?_) rfl (by kernel_rfl) (by kernel_rfl) (by kernel_rfl) (fun _ _ _ h => h) (Or.inl ⟨by rfl, ?_⟩) (by assumption) ?_
            rotate_left
            · (intro w' hSw; go_simp; try with_reducible rfl)
            (try simp only [List.getElem_toArray]); (try simp only [List.getElem_cons_succ]); (try simp only [List.getElem_cons_zero]); (try simp only [Act.put]); (try simp only [List.setIfInBounds_toArray]); (try simp only [List.set_cons_succ]); (try simp only [List.set_cons_zero])
            refine wpAnyH_take (i := 30) (v := ?_) rfl (by kernel_rfl) (by kernel_rfl) (by kernel_rfl) (fun _ _ _ h => h) (Or.inl ⟨by rfl, ?_⟩) (by assumption) ?_
            rotate_left
            · (intro w' hSw; go_simp; try with_reducible rfl)
            (try simp only [List.getElem_toArray]); (try simp only [List.getElem_cons_succ]); (try simp only [List.getElem_cons_zero]); (try simp only [Act.put]); (try simp only [List.setIfInBounds_toArray]); (try simp only [List.set_cons_succ]); (try simp only [List.set_cons_zero])
            refine wpAnyH_ready (rs := [28]) (by kernel_rfl) (by simp) ?_
            refine AllReadyH.cons rfl (fun K hK => ?_) AllReadyH.nil
            go_simp
            go_at_call 32
            refine (implIsLexElimination_any N6 s6 P6 m6 d6 X6 _ (hP6.up hV7) (by omega)).mono ?_
            rintro e w407 ⟨rfl, hb407⟩
            have hV8 := Up.then_ hV7 hb407
            go_wp2_with fail
            refine hK.out _ _ (by exact ⟨hV8, fun _ _ hb => hV8.cell hb⟩) (fun hHeld8 => ?_)
            clear hK K
            (try simp only [List.getElem_toArray]); (try simp only [List.getElem_cons_succ]); (try simp only [List.getElem_cons_zero]); (try simp only [Act.put]); (try simp only [List.setIfInBounds_toArray]); (try simp only [List.set_cons_succ]); (try simp only [List.set_cons_zero])
            refine wpAnyH_ready (rs := [31]) (by kernel_rfl) (by simp) ?_
            refine AllReadyH.cons rfl (fun K hK => ?_) AllReadyH.nil
            go_simp
            go_at_call 46
            refine (specIsLexElimination_any N6 s6 P6 m6 d6 X6 _ (hP6.up hV8) (by omega)).mono ?_
            rintro e w408 ⟨rfl, hb408⟩
            have hV9 := Up.then_ hV8 hb408
            go_wp2_with fail
            refine hK.out _ _ (by exact ⟨hV9, fun _ _ hb => hV9.cell hb⟩) (fun hHeld9 => ?_)
            clear hK K
            (try simp only [List.getElem_toArray]); (try simp only [List.getElem_cons_succ]); (try simp only [List.getElem_cons_zero]); (try simp only [Act.put]); (try simp only [List.setIfInBounds_toArray]); (try simp only [List.set_cons_succ]); (try simp only [List.set_cons_zero])
            refine wpAnyH_take (i := 32) (v := ?_) rfl (by kernel_rfl) (by kernel_rfl) (by kernel_rfl) (fun _ _ _ h => h) (Or.inl ⟨by rfl, ?_⟩) (by assumption) ?_
            rotate_left
            · (intro w' hSw; go_simp; try with_reducible rfl)
            (try simp only [List.getElem_toArray]); (try simp only [List.getElem_cons_succ]); (try simp only [List.getElem_cons_zero]); (try simp only [Act.put]); (try simp only [List.setIfInBounds_toArray]); (try simp only [List.set_cons_succ]); (try simp only [List.set_cons_zero])
            refine wpAnyH_take (i := 33) (v := ?_) rfl (by kernel_rfl) (by kernel_rfl) (by kernel_rfl) (fun _ _ _ h => h) (Or.inl ⟨by rfl, ?_⟩) (by assumption) ?_
            rotate_left
            · (intro w' hSw; go_simp; try with_reducible rfl)
            (try simp only [List.getElem_toArray]); (try simp only [List.getElem_cons_succ]); (try simp only [List.getElem_cons_zero]); (try simp only [Act.put]); (try simp only [List.setIfInBounds_toArray]); (try simp only [List.set_cons_succ]); (try simp only [List.set_cons_zero])
            refine wpAnyH_take (i := 34) (v := ?_) rfl (by kernel_rfl) (by kernel_rfl) (by kernel_rfl) (fun _ _ _ h => h) (Or.inl ⟨by rfl, ?_⟩) (by assumption) ?_
            rotate_left
            · (intro w' hSw; go_simp; try with_reducible rfl)
            (try simp only [List.getElem_toArray]); (try simp only [List.getElem_cons_succ]); (try simp only [List.getElem_cons_zero]); (try simp only [Act.put]); (try simp only [List.setIfInBounds_toArray]); (try simp only [List.set_cons_succ]); (try simp only [List.set_cons_zero])
            refine wpAnyH_done (by kernel_rfl) ?_ _
            have hU40 := hV9
            go_wp2
            go_ret
            exact ⟨rfl, Up.then_ hw37 hU40⟩
        · cases hiff
  · go_enter Try.func4, Try.ntmps4
    go_wp2_with fail
    refine (big_yes B n c _ (by omega) hn).mono ?_
    rintro e w1 ⟨rfl, hb1⟩
    have hU1 : Up w w1 := Up.then_ (by go_grown) hb1
    go_wp2
    go_ret
    exact ⟨rfl, hU1⟩
end Go.Proofs.Ythncdjcmlpiebaa
