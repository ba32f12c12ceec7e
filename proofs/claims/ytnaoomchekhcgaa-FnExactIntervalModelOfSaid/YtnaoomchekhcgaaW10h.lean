/- Walks of chapter 10: the reference's orders of cliques. -/
import Derived.Test.YtnaoomchekhcgaaW10e
namespace Go.Proofs.Ytnaoomchekhcgaa
open Go.RowKit
theorem min_one_some {os : List (List Nat)} (h : 0 < os.length) : min os.length 1 = 1 ∧ ∃ q, os.head? = some q := by
  rcases os with _ | ⟨q, t⟩
  · simp at h
  · exact ⟨by simp, q, rfl⟩
set_option maxRecDepth 100000 in
set_option maxHeartbeats 2000000 in
theorem specCliqueOrderOf_any (N : Int) (A : Option Addr) (n c : Nat) (X : List Int) (w : World) (hX : RI w A n X) (hn : n ≤ 9223372036854775807) :
    Calls Try.prog 24 #[.agg #[.int .i64 N, .slice A n c]] w (GivesIB (optL (ordOf N X)) (ordOf N X).isSome w) := by
  obtain ⟨b, hb⟩ : ∃ b, b = (elimOf N X).isSome := ⟨_, rfl⟩
  have HC := Lib.hid hb.symm
  clear hb
  have hG := Blk.new w 27 #[.int .i64 N, .slice A n c]
  cases b
  · have HO := Lib.hid (show ordOf N X = none by rw [ordOf, cliqOrds_no HC.out]; rfl)
    go_enter Try.func24, Try.ntmps24
    go_wp2_with fail
    refine (specIsChordal_is (hX.up (by go_grown)) hn HC.out).mono ?_
    rintro e w1 ⟨rfl, hb1⟩
    have hU1 : Up w w1 := Up.then_ (by go_grown) hb1
    have hown0 := OwnI.made (base := w1.heap.size) w1 (Nat.le_refl _)
    have hww := hU1.alloc hU1.size (.cells #[] 3)
    go_wp2
    go_ret2
    rw [HO.out]
    exact givesIB_none hown0 hU1.size hww
  · have hok := cliques_ok HC.out
    obtain ⟨L, hL⟩ : ∃ L, L = maxCliquesOf N X := ⟨_, rfl⟩
    rw [← hL] at hok
    obtain ⟨os, hos⟩ : ∃ os, os = ords L L.length [] := ⟨_, rfl⟩
    have HO := Lib.hid (show ordOf N X = os.head? by rw [ordOf, cliqOrds_yes HC.out, ← hL, hos])
    have HOS := Lib.hid hos
    have HL := Lib.hid hL
    clear hL hos
    go_enter Try.func24, Try.ntmps24
    go_wp2_with fail
    refine (specIsChordal_is (hX.up (by go_grown)) hn HC.out).mono ?_
    rintro e w1 ⟨rfl, hb1⟩
    have hU1 : Up w w1 := Up.then_ (by go_grown) hb1
    replace hX := hX.up hU1
    replace hG := hG.up hb1
    have hyG := hG.two
    have hlG := hG.lt
    go_wp2_with fail
    refine (specMaximalCliques_any N A n c X _ (hX.up (by go_grown)) hn).mono ?_
    intro e w2 hg2
    obtain ⟨AC, cC, rfl, hownC, hb2⟩ := hg2.out
    clear hg2 hyG hlG
    rw [← HL.out] at hownC ⊢
    have hU2 : Up w1 w2 := Up.then_ (by go_grown) hb2
    have hw2 := Up.then_ hU1 hU2
    have hown0 := OwnI.made (base := w2.heap.size) w2 (Nat.le_refl _)
    have hcall := l10Search_any L.length cC AC L rfl hok.1 hok.2.2 w2.heap.size L.length [] ⟨w2.heap.size, 0, none⟩ 0 1 _ (by simp) (by simp) (by omega) (by omega) hown0 (by simp) (hownC.ri.alloc (.cells #[] 3))
    rw [← HOS.out] at hcall
    clear hown0
    go_wp2_with fail
    refine hcall.mono ?_
    clear hcall
    rintro e w3 ⟨A3, c3, rfl, hown3, hb3⟩
    have hU3 : Up w2 w3 := Up.then_ (by go_grown) hb3
    have hw3 := Up.then_ hw2 hU3
    have hsz2 := hw2.size
    by_cases h0 : os.length = 0
    · have he : os = [] := List.eq_nil_of_length_eq_zero h0
      subst he
      clear h0 HOS
      go_wp2
      go_ret2
      rw [HO.out]
      exact givesIB_none hown3 hsz2 hw3
    · obtain ⟨h1, q, hq⟩ := min_one_some (os := os) (by omega)
      rw [hq] at hown3 HO ⊢
      rw [h1]
      clear h0 h1 HOS hq
      go_wp2
      go_ret2
      rw [HO.out]
      exact givesIB_some hown3 hsz2 hw3
theorem specIsInterval_any (N : Int) (A : Option Addr) (n c : Nat) (X : List Int) (w : World) (hX : RI w A n X) (hn : n ≤ 9223372036854775807) :
    Calls Try.prog 16 #[.agg #[.int .i64 N, .slice A n c]] w fun e w' => e = .returned (.bool (ordOf N X).isSome) ∧ Below w.heap.size w w' := by
  go_enter Try.func16, Try.ntmps16
  go_wp2_with fail
  refine (specCliqueOrderOf_any N A n c X _ (hX.up (by go_grown)) hn).mono ?_
  rintro e w1 ⟨A1, c1, rfl, hown, hb1⟩
  have hU1 : Up w w1 := Up.then_ (by go_grown) hb1
  go_wp2
  go_ret
  exact ⟨rfl, hU1⟩
set_option maxRecDepth 100000 in
set_option maxHeartbeats 2000000 in
theorem specCountCliqueOrders_any (N : Int) (A : Option Addr) (n c : Nat) (X : List Int) (w : World) (hX : RI w A n X) (hn : n ≤ 9223372036854775807) :
    Calls Try.prog 12 #[.agg #[.int .i64 N, .slice A n c]] w fun e w' => e = .returned (.int .i64 (min (cliqOrds N X).length 1000 : Nat)) ∧ Below w.heap.size w w' := by
  obtain ⟨b, hb⟩ : ∃ b, b = (elimOf N X).isSome := ⟨_, rfl⟩
  have HC := Lib.hid hb.symm
  clear hb
  have hG := Blk.new w 27 #[.int .i64 N, .slice A n c]
  cases b
  · have HO := Lib.hid (show (min (cliqOrds N X).length 1000 : Nat) = 0 by rw [cliqOrds_no HC.out]; rfl)
    go_enter Try.func12, Try.ntmps12
    go_wp2_with fail
    refine (specIsChordal_is (hX.up (by go_grown)) hn HC.out).mono ?_
    rintro e w1 ⟨rfl, hb1⟩
    have hU1 : Up w w1 := Up.then_ (by go_grown) hb1
    go_wp2
    go_ret
    rw [HO.out]
    exact ⟨rfl, hU1⟩
  · have hok := cliques_ok HC.out
    obtain ⟨L, hL⟩ : ∃ L, L = maxCliquesOf N X := ⟨_, rfl⟩
    rw [← hL] at hok
    obtain ⟨os, hos⟩ : ∃ os, os = ords L L.length [] := ⟨_, rfl⟩
    have HO := Lib.hid (show cliqOrds N X = os by rw [cliqOrds_yes HC.out, ← hL, hos])
    have HOS := Lib.hid hos
    have HL := Lib.hid hL
    rw [HO.out]
    clear hL hos
    go_enter Try.func12, Try.ntmps12
    go_wp2_with fail
    refine (specIsChordal_is (hX.up (by go_grown)) hn HC.out).mono ?_
    rintro e w1 ⟨rfl, hb1⟩
    have hU1 : Up w w1 := Up.then_ (by go_grown) hb1
    replace hX := hX.up hU1
    replace hG := hG.up hb1
    have hyG := hG.two
    have hlG := hG.lt
    go_wp2_with fail
    refine (specMaximalCliques_any N A n c X _ (hX.up (by go_grown)) hn).mono ?_
    intro e w2 hg2
    obtain ⟨AC, cC, rfl, hownC, hb2⟩ := hg2.out
    clear hg2 hyG hlG
    rw [← HL.out] at hownC ⊢
    have hU2 : Up w1 w2 := Up.then_ (by go_grown) hb2
    have hw2 := Up.then_ hU1 hU2
    have hown0 := OwnI.made (base := w2.heap.size) w2 (Nat.le_refl _)
    have hcall := l10Search_any L.length cC AC L rfl hok.1 hok.2.2 w2.heap.size L.length [] ⟨w2.heap.size, 0, none⟩ 0 1000 _ (by simp) (by simp) (by omega) (by omega) hown0 (by simp) (hownC.ri.alloc (.cells #[] 3))
    rw [← HOS.out] at hcall
    clear hown0
    go_wp2_with fail
    refine hcall.mono ?_
    clear hcall
    rintro e w3 ⟨A3, c3, rfl, hown3, hb3⟩
    have hU3 : Up w2 w3 := Up.then_ (by go_grown) hb3
    have hw3 := Up.then_ hw2 hU3
    obtain ⟨r, hr⟩ : ∃ r, r = min os.length 1000 := ⟨_, rfl⟩
    rw [← hr]
    have HRR := Lib.hid hr
    clear hr hown3
    go_wp2
    go_ret
    rw [← HRR.out]
    exact ⟨rfl, hw3⟩
end Go.Proofs.Ytnaoomchekhcgaa
