/- Walks of chapter 11: TriplePaths. -/
import Derived.Test.YtlcmfangecbdgaaLaw5
import Derived.Test.YtlcmfangecbdgaaW11e
namespace Go.Proofs.Ytlcmfangecbdgaa
open Go.RowKit
def tripPaths (N : Int) (X : List Int) (a b c : Int) : List (List Int) := if isTrip N X a b c then [optL (avoidOf N X a b c), optL (avoidOf N X b c a), optL (avoidOf N X c a b)] else []
theorem tripPaths_no {N : Int} {X : List Int} {a b c : Int} (h : isTrip N X a b c = false) : tripPaths N X a b c = [] := by rw [tripPaths, h]; rfl
theorem tripPaths_yes {N : Int} {X : List Int} {a b c : Int} (h : isTrip N X a b c = true) : tripPaths N X a b c = [optL (avoidOf N X a b c), optL (avoidOf N X b c a), optL (avoidOf N X c a b)] := by rw [tripPaths, if_pos h]
theorem avoid_len (N : Int) (X : List Int) (a b c : Int) : (optL (avoidOf N X a b c)).length ≤ 128 := by
  rw [optL, ints_len]
  rcases avoid_cases N X a b c with ⟨h0, _⟩ | ⟨n, i, j, k, Q, rfl, rfl, rfl, rfl, rfl, h, hi, hj, hk⟩
  · rw [h0]; simp
  · rw [avoidOf_ok h hi hj hk]
    rcases hw : wayOf Q n (awayS Q n k) i j with _ | r
    · simp
    · have := (wayOf_len hw h.pos).2
      have := h.le
      show r.length ≤ 128
      omega
theorem tripPaths_len (N : Int) (X : List Int) (a b c : Int) : sumL (tripPaths N X a b c) ≤ 1048576 ∧ (tripPaths N X a b c).length ≤ 1048576 := by
  rcases Bool.eq_false_or_eq_true (isTrip N X a b c) with e | e
  · rw [tripPaths_yes e]
    have h1 := avoid_len N X a b c
    have h2 := avoid_len N X b c a
    have h3 := avoid_len N X c a b
    simp only [sumL, List.length_cons, List.length_nil]
    omega
  · rw [tripPaths_no e]; simp [sumL]
/-- Three rows made one after the other, in one slice. -/
theorem OwnS.three {w : World} {b1 b2 b3 base : Nat} {p1 p2 p3 : RowP} (h1 : OwnI w b1 p1.1.1 p1.2.length p1.1.2 p1.2) (h2 : OwnI w b2 p2.1.1 p2.2.length p2.1.2 p2.2) (h3 : OwnI w b3 p3.1.1 p3.2.length p3.1.2 p3.2)
    (hb1 : base ≤ b1) (hb2 : b1 ≤ b2) (hb3 : b2 ≤ b3) (l1 : ∀ j, (rowV p1).ownBlock = some j → j < b2) (l2 : ∀ j, (rowV p2).ownBlock = some j → j < b3) (hbs : base ≤ w.heap.size) :
    OwnS (w.alloc (.cells #[rowV p1, rowV p2, rowV p3] 22)) base (some ⟨w.heap.size, 0, none⟩) 3 3 [p1, p2, p3] := by
  refine ⟨(Blk.new w 22 #[rowV p1, rowV p2, rowV p3]).own (n := 3) hbs rfl (by decide), fun p hp => ?_, ?_⟩
  · simp only [List.mem_cons, List.not_mem_nil, or_false] at hp
    rcases hp with rfl | rfl | rfl
    · exact (h1.more hb1).alloc _
    · exact (h2.more (Nat.le_trans hb1 hb2)).alloc _
    · exact (h3.more (Nat.le_trans hb1 (Nat.le_trans hb2 hb3))).alloc _
  · have g2 := h2.block
    have g3 := h3.block
    simp only [List.pairwise_cons, List.mem_cons, List.not_mem_nil, or_false, forall_eq_or_imp, forall_eq]
    refine ⟨⟨fun j e1 e2 => ?_, fun j e1 e2 => ?_⟩, fun j e1 e2 => ?_, ?_⟩
    · have := l1 j e1; have := (g2 j e2).1; omega
    · have := l1 j e1; have := (g3 j e2).1; omega
    · have := l2 j e1; have := (g3 j e2).1; omega
    · exact ⟨fun _ h => by simp at h, List.Pairwise.nil⟩
set_option maxRecDepth 100000 in
set_option maxHeartbeats 2000000 in
theorem implTriplePaths_any (N : Int) (A : Option Addr) (n d : Nat) (X : List Int) (a b c : Int) (w : World) (hX : RI w A n X) (hn : n ≤ 9223372036854775807) :
    Calls Try.prog 37 #[.agg #[.int .i64 N, .slice A n d], .int .i64 a, .int .i64 b, .int .i64 c] w (GivesSB (tripPaths N X a b c) (isTrip N X a b c) w) := by
  have hbk := Blk.new w 27 #[.int .i64 N, .slice A n d]
  have hU0 : Up w (w.alloc (.cells #[.int .i64 N, .slice A n d] 27)) := by go_grown
  obtain ⟨t, ht⟩ : ∃ t, t = isTrip N X a b c := ⟨_, rfl⟩
  have HT := Lib.hid ht.symm
  clear ht
  cases t
  · rw [tripPaths_no HT.out, HT.out]
    go_enter Try.func37, Try.ntmps37
    go_wp2_with fail
    refine (implIsTriple_is (hX.up hU0) hn HT.out).mono ?_
    rintro e w1 ⟨rfl, hb1⟩
    have hU1 : Up w w1 := Up.then_ hU0 hb1
    go_wp2
    go_ret2
    exact ⟨none, 0, [], rfl, rfl, OwnS.nil_ _ _, hU1⟩
  · rw [tripPaths_yes HT.out, HT.out]
    obtain ⟨r1, hr1⟩ : ∃ r, r = avoidOf N X a b c := ⟨_, rfl⟩
    obtain ⟨r2, hr2⟩ : ∃ r, r = avoidOf N X b c a := ⟨_, rfl⟩
    obtain ⟨r3, hr3⟩ : ∃ r, r = avoidOf N X c a b := ⟨_, rfl⟩
    rw [← hr1, ← hr2, ← hr3]
    have HR := Lib.hid (And.intro hr1 (And.intro hr2 hr3))
    clear hr1 hr2 hr3
    go_enter Try.func37, Try.ntmps37
    go_wp2_with fail
    refine (implIsTriple_is (hX.up hU0) hn HT.out).mono ?_
    rintro e w1 ⟨rfl, hb1⟩
    have hU1 : Up w w1 := Up.then_ hU0 hb1
    replace hbk := hbk.up hb1
    have hy := hbk.two
    have hl := hbk.lt
    go_wp2_with fail
    refine (implAvoidingPath_any N a b c A n d X w1 (hX.up hU1) hn).mono ?_
    rintro e w2 ⟨A2, c2, rfl, ho2, hb2⟩
    rw [← HR.out.1] at ho2 ⊢
    have hU2 : Up w w2 := Up.then_ hU1 hb2
    replace hbk := hbk.up hb2
    replace hy := hbk.two
    replace hl := hbk.lt
    have B2 := ho2.block
    go_wp2_with fail
    refine (implAvoidingPath_any N b c a A n d X w2 (hX.up hU2) hn).mono ?_
    rintro e w3 ⟨A3, c3, rfl, ho3, hb3⟩
    rw [← HR.out.2.1] at ho3 ⊢
    have hU3 : Up w w3 := Up.then_ hU2 hb3
    replace hbk := hbk.up hb3
    replace hy := hbk.two
    replace hl := hbk.lt
    have B3 := ho3.block
    go_wp2_with fail
    refine (implAvoidingPath_any N c a b A n d X w3 (hX.up hU3) hn).mono ?_
    rintro e w4 ⟨A4, c4, rfl, ho4, hb4⟩
    rw [← HR.out.2.2] at ho4 ⊢
    have hU4 : Up w w4 := Up.then_ hU3 hb4
    have hS := OwnS.three (p1 := ((A2, c2), optL r1)) (p2 := ((A3, c3), optL r2)) (p3 := ((A4, c4), optL r3)) (base := w.heap.size) ((ho2.up hb3).up hb4) (ho3.up hb4) ho4 hU1.size hb2.size hb3.size (fun j e => (B2 j e).2) (fun j e => (B3 j e).2) hU4.size
    have hww := hU4.alloc hU4.size (.cells #[rowV ((A2, c2), optL r1), rowV ((A3, c3), optL r2), rowV ((A4, c4), optL r3)] 22)
    unfold rowV at hS hww
    clear hy hl
    go_wp2
    go_ret2
    exact ⟨some ⟨w4.heap.size, 0, none⟩, 3, [((A2, c2), optL r1), ((A3, c3), optL r2), ((A4, c4), optL r3)], rfl, rfl, hS, hww⟩
set_option maxRecDepth 100000 in
set_option maxHeartbeats 2000000 in
theorem specTriplePaths_any (N : Int) (A : Option Addr) (n d : Nat) (X : List Int) (a b c : Int) (w : World) (hX : RI w A n X) (hn : n ≤ 9223372036854775807) :
    Calls Try.prog 36 #[.agg #[.int .i64 N, .slice A n d], .int .i64 a, .int .i64 b, .int .i64 c] w (GivesSB (tripPaths N X a b c) (isTrip N X a b c) w) := by
  have hbk := Blk.new w 27 #[.int .i64 N, .slice A n d]
  have hU0 : Up w (w.alloc (.cells #[.int .i64 N, .slice A n d] 27)) := by go_grown
  obtain ⟨t, ht⟩ : ∃ t, t = isTrip N X a b c := ⟨_, rfl⟩
  have HT := Lib.hid ht.symm
  clear ht
  cases t
  · rw [tripPaths_no HT.out, HT.out]
    go_enter Try.func36, Try.ntmps36
    go_wp2_with fail
    refine (specIsTriple_is (hX.up hU0) hn HT.out).mono ?_
    rintro e w1 ⟨rfl, hb1⟩
    have hU1 : Up w w1 := Up.then_ hU0 hb1
    have hown0 := OwnS.made (base := w.heap.size) (w := w1) rfl hU1.size
    have hww := hU1.alloc hU1.size (.cells #[] 22)
    go_wp2
    go_ret2
    exact ⟨some ⟨w1.heap.size, 0, none⟩, 0, [], rfl, rfl, hown0, hww⟩
  · rw [tripPaths_yes HT.out, HT.out]
    obtain ⟨r1, hr1⟩ : ∃ r, r = avoidOf N X a b c := ⟨_, rfl⟩
    obtain ⟨r2, hr2⟩ : ∃ r, r = avoidOf N X b c a := ⟨_, rfl⟩
    obtain ⟨r3, hr3⟩ : ∃ r, r = avoidOf N X c a b := ⟨_, rfl⟩
    rw [← hr1, ← hr2, ← hr3]
    have HR := Lib.hid (And.intro hr1 (And.intro hr2 hr3))
    clear hr1 hr2 hr3
    go_enter Try.func36, Try.ntmps36
    go_wp2_with fail
    refine (specIsTriple_is (hX.up hU0) hn HT.out).mono ?_
    rintro e w1 ⟨rfl, hb1⟩
    have hU1 : Up w w1 := Up.then_ hU0 hb1
    replace hbk := hbk.up hb1
    have hy := hbk.two
    have hl := hbk.lt
    go_wp2_with fail
    refine (specAvoidingPath_any N a b c A n d X w1 (hX.up hU1) hn).mono ?_
    rintro e w2 ⟨A2, c2, rfl, ho2, hb2⟩
    rw [← HR.out.1] at ho2 ⊢
    have hU2 : Up w w2 := Up.then_ hU1 hb2
    replace hbk := hbk.up hb2
    replace hy := hbk.two
    replace hl := hbk.lt
    have B2 := ho2.block
    go_wp2_with fail
    refine (specAvoidingPath_any N b c a A n d X w2 (hX.up hU2) hn).mono ?_
    rintro e w3 ⟨A3, c3, rfl, ho3, hb3⟩
    rw [← HR.out.2.1] at ho3 ⊢
    have hU3 : Up w w3 := Up.then_ hU2 hb3
    replace hbk := hbk.up hb3
    replace hy := hbk.two
    replace hl := hbk.lt
    have B3 := ho3.block
    go_wp2_with fail
    refine (specAvoidingPath_any N c a b A n d X w3 (hX.up hU3) hn).mono ?_
    rintro e w4 ⟨A4, c4, rfl, ho4, hb4⟩
    rw [← HR.out.2.2] at ho4 ⊢
    have hU4 : Up w w4 := Up.then_ hU3 hb4
    have hS := OwnS.three (p1 := ((A2, c2), optL r1)) (p2 := ((A3, c3), optL r2)) (p3 := ((A4, c4), optL r3)) (base := w.heap.size) ((ho2.up hb3).up hb4) (ho3.up hb4) ho4 hU1.size hb2.size hb3.size (fun j e => (B2 j e).2) (fun j e => (B3 j e).2) hU4.size
    have hww := hU4.alloc hU4.size (.cells #[rowV ((A2, c2), optL r1), rowV ((A3, c3), optL r2), rowV ((A4, c4), optL r3)] 22)
    unfold rowV at hS hww
    clear hy hl
    go_wp2
    go_ret2
    exact ⟨some ⟨w4.heap.size, 0, none⟩, 3, [((A2, c2), optL r1), ((A3, c3), optL r2), ((A4, c4), optL r3)], rfl, rfl, hS, hww⟩
end Go.Proofs.Ytlcmfangecbdgaa
