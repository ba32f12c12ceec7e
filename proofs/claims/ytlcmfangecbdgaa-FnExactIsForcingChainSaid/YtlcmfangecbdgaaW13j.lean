/- Walks of chapter 2: HasEdge. -/
import Derived.Test.YtlcmfangecbdgaaW13g
import Derived.Test.YtlcmfangecbdgaaW5
namespace Go.Proofs.Ytlcmfangecbdgaa
open Go.RowKit
theorem RI.ints_at' {w : World} {A : Option Addr} {m k : Nat} {o : List Nat} (h : RI w A m (ints o)) (hk : k < m) : ∃ ad, A = some ad ∧ w.cell? (ad.add k) = some (.int .i64 (nb o k)) := by
  obtain ⟨a, e, _, hc⟩ := h.at_ hk
  rw [ints_nb] at hc
  exact ⟨a, e, hc⟩
set_option maxRecDepth 100000 in
set_option maxHeartbeats 2000000 in
theorem specHasEdge_any (N : Int) (A : Option Addr) (n c : Nat) (X : List Int) (a b : Int) (w : World) (hX : RI w A n X) (hn : n ≤ 9223372036854775807) :
    Calls Try.prog 57 #[.agg #[.int .i64 N, .slice A n c], .int .i64 a, .int .i64 b] w fun e w' => e = .returned (.bool (hasEdge N X a b)) ∧ Below w.heap.size w w' := by
  have hbk := Blk.new w 27 #[.int .i64 N, .slice A n c]
  have hU0 : Up w (w.alloc (.cells #[.int .i64 N, .slice A n c] 27)) := by go_grown
  rcases isGraph_cases N X with hg | ⟨k, Q, rfl, rfl, h⟩
  · rw [hasEdge_no hg]
    have H1 := Lib.hid hg
    clear hg
    go_enter Try.func57, Try.ntmps57
    go_wp2_with fail
    refine (specIsGraph_is (hX.up hU0) hn H1.out).mono ?_
    rintro e w1 ⟨rfl, hb1⟩
    have hU1 := Up.then_ hU0 hb1
    go_wp2
    go_ret
    exact ⟨rfl, hU1⟩
  · obtain rfl : n = k := by rw [← hX.1, ints_len, h.len]
    have H1 := Lib.hid h.is
    by_cases ha0 : 0 ≤ a
    rotate_left
    · rw [hasEdge_out (by omega)]
      have d1 : decide (0 ≤ a) = false := decide_eq_false ha0
      go_enter Try.func57, Try.ntmps57
      go_wp2_with fail
      refine (specIsGraph_is (hX.up hU0) hn H1.out).mono ?_
      rintro e w1 ⟨rfl, hb1⟩
      have hU1 := Up.then_ hU0 hb1
      go_wp2
      go_ret
      exact ⟨rfl, hU1⟩
    obtain ⟨i, rfl⟩ : ∃ i : Nat, a = i := ⟨a.toNat, by omega⟩
    by_cases hb0 : 0 ≤ b
    rotate_left
    · rw [hasEdge_out (by omega)]
      have d1 : decide (0 ≤ b) = false := decide_eq_false hb0
      go_enter Try.func57, Try.ntmps57
      go_wp2_with fail
      refine (specIsGraph_is (hX.up hU0) hn H1.out).mono ?_
      rintro e w1 ⟨rfl, hb1⟩
      have hU1 := Up.then_ hU0 hb1
      go_wp2
      go_ret
      exact ⟨rfl, hU1⟩
    obtain ⟨j, rfl⟩ : ∃ j : Nat, b = j := ⟨b.toNat, by omega⟩
    by_cases hin : i < n
    rotate_left
    · rw [hasEdge_out (by omega)]
      have d1 : decide ((i : Int) < (n : Int)) = false := decide_eq_false (by omega)
      go_enter Try.func57, Try.ntmps57
      go_wp2_with fail
      refine (specIsGraph_is (hX.up hU0) hn H1.out).mono ?_
      rintro e w1 ⟨rfl, hb1⟩
      have hU1 := Up.then_ hU0 hb1
      have hy := (hbk.up hb1).two
      have hl := (hbk.up hb1).lt
      go_wp2
      go_ret
      exact ⟨rfl, hU1⟩
    by_cases hjn : j < n
    rotate_left
    · rw [hasEdge_out (by omega)]
      have d1 : decide ((j : Int) < (n : Int)) = false := decide_eq_false (by omega)
      go_enter Try.func57, Try.ntmps57
      go_wp2_with fail
      refine (specIsGraph_is (hX.up hU0) hn H1.out).mono ?_
      rintro e w1 ⟨rfl, hb1⟩
      have hU1 := Up.then_ hU0 hb1
      have hy := (hbk.up hb1).two
      have hl := (hbk.up hb1).lt
      go_wp2
      go_ret
      exact ⟨rfl, hU1⟩
    rw [hasEdge_ok h hin hjn]
    obtain ⟨f, hf⟩ : ∃ f, f = edge Q i j := ⟨_, rfl⟩
    have HF := Lib.hid (show (nb Q i).testBit j = f from hf.symm)
    rw [← hf]
    clear hf
    go_enter Try.func57, Try.ntmps57
    go_wp2_with fail
    refine (specIsGraph_is (hX.up hU0) hn H1.out).mono ?_
    rintro e w1 ⟨rfl, hb1⟩
    have hU1 := Up.then_ hU0 hb1
    have hy := (hbk.up hb1).two
    have hl := (hbk.up hb1).lt
    go_wp2_with fail
    refine (l2Edge_is (hX.up hU1) h hin hjn HF.out).mono ?_
    rintro e w2 ⟨rfl, hb2⟩
    have hU2 := Up.then_ hU1 hb2
    go_wp2
    go_ret
    exact ⟨rfl, hU2⟩
theorem allIn2 (N a b : Int) : allIn N [a, b] = decide ((0 ≤ a ∧ a < N) ∧ 0 ≤ b ∧ b < N) := by
  rw [allIn, Bool.eq_iff_iff]
  simp
set_option maxRecDepth 100000 in
set_option maxHeartbeats 2000000 in
theorem implHasEdge_any (N : Int) (A : Option Addr) (n c : Nat) (X : List Int) (a b : Int) (w : World) (hX : RI w A n X) (hn : n ≤ 9223372036854775807) :
    Calls Try.prog 61 #[.agg #[.int .i64 N, .slice A n c], .int .i64 a, .int .i64 b] w fun e w' => e = .returned (.bool (hasEdge N X a b)) ∧ Below w.heap.size w w' := by
  have hbk := (Blk.new w 27 #[.int .i64 N, .slice A n c]).alloc (.cells #[.int .i64 a, .int .i64 b] 3)
  have hri : RI ((w.alloc (.cells #[.int .i64 N, .slice A n c] 27)).alloc (.cells #[.int .i64 a, .int .i64 b] 3)) (some ⟨w.heap.size + 1, 0, none⟩) 2 [a, b] := (Blk.new_at (by simp)).ri (xs := [a, b]) rfl
  have hU0 : Up w ((w.alloc (.cells #[.int .i64 N, .slice A n c] 27)).alloc (.cells #[.int .i64 a, .int .i64 b] 3)) := by go_grown
  by_cases hv : (isGraph N X && allIn N [a, b]) = true
  rotate_left
  · have hv' : (isGraph N X && allIn N [a, b]) = false := by simpa using hv
    have HV := Lib.hid hv'
    have hno : hasEdge N X a b = false := by
      rw [allIn2] at hv'
      rcases Bool.eq_false_or_eq_true (isGraph N X) with e | e
      · rw [e, Bool.true_and] at hv'
        exact hasEdge_out (of_decide_eq_false hv')
      · exact hasEdge_no e
    rw [hno]
    clear hv hv' hno
    go_enter Try.func61, Try.ntmps61
    go_wp2_with fail
    refine (isVertex_is (hX.up hU0) hri hn (by omega) HV.out).mono ?_
    rintro e w1 ⟨rfl, hb1⟩
    have hU1 := Up.then_ hU0 hb1
    go_wp2
    go_ret
    exact ⟨rfl, hU1⟩
  · have HV := Lib.hid hv
    rw [Bool.and_eq_true, allIn2, decide_eq_true_eq] at hv
    obtain ⟨hg, ⟨ha0, han⟩, hb0, hbn⟩ := hv
    obtain ⟨k, Q, rfl, rfl, h⟩ := isGraph_ok hg
    obtain rfl : n = k := by rw [← hX.1, ints_len, h.len]
    obtain ⟨i, rfl⟩ : ∃ i : Nat, a = i := ⟨a.toNat, by omega⟩
    obtain ⟨j, rfl⟩ : ∃ j : Nat, b = j := ⟨b.toNat, by omega⟩
    have hin : i < n := by omega
    have hjn : j < n := by omega
    have h7 := h.le
    rw [hasEdge_ok h hin hjn]
    obtain ⟨f, hf⟩ : ∃ f, f = edge Q i j := ⟨_, rfl⟩
    have HF := Lib.hid (show (nb Q i).testBit j = f from hf.symm)
    rw [← hf]
    have hx7 := h.nb7 i
    clear hf hg ha0 han hb0 hbn
    go_enter Try.func61, Try.ntmps61
    go_wp2_with fail
    refine (isVertex_is (hX.up hU0) hri hn (by omega) HV.out).mono ?_
    rintro e w1 ⟨rfl, hb1⟩
    have hU1 := Up.then_ hU0 hb1
    have hy := (hbk.up hb1).two
    have hl := (hbk.up hb1).lt
    obtain ⟨ad, rfl, hca⟩ := (hX.up hU1).ints_at' hin
    obtain ⟨x, hx⟩ : ∃ x, x = nb Q i := ⟨_, rfl⟩
    rw [← hx] at hca HF hx7
    clear hx
    go_wp2_with fail
    refine (has_is (by omega) (by omega) HF.out).mono ?_
    rintro e w2 ⟨rfl, rfl⟩
    go_wp2
    go_ret
    exact ⟨rfl, hU1⟩
end Go.Proofs.Ytlcmfangecbdgaa
