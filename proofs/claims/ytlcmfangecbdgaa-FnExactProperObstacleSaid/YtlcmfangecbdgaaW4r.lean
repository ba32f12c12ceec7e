/- Walks of chapter 11 and 12: IntervalObstacle, ProperObstacle. -/
import Derived.Test.YtlcmfangecbdgaaW4q
import Derived.Test.YtlcmfangecbdgaaW11e
namespace Go.Proofs.Ytlcmfangecbdgaa
open Go.RowKit
def ivObsOf (N : Int) (X : List Int) : Option (List Nat) := (holeOf N X).or (tripOf N X)
def prObsOf (N : Int) (X : List Int) : Option (List Nat) := (clawOf N X).or (ivObsOf N X)
theorem or_none_ {a b : Option (List Nat)} (h : a = none) : a.or b = b := by rw [h]; rfl
theorem or_some_ {a b : Option (List Nat)} {r : List Nat} (h : a = some r) : a.or b = some r := by rw [h]; rfl
theorem GivesIB.out_none {w : World} {e : Ending} {w' : World} {r : Option (List Nat)} (hr : r = none) (h : GivesIB (optL r) r.isSome w e w') : ∃ A m c, e = .returned (.tuple #[.slice A m c, .bool false]) ∧ Below w.heap.size w w' := by
  subst hr
  obtain ⟨A, c, rfl, _, hb⟩ := h
  exact ⟨A, _, c, rfl, hb⟩
theorem GivesIB.out_some {w : World} {e : Ending} {w' : World} {r : Option (List Nat)} {q : List Nat} (hr : r = some q) (h : GivesIB (optL r) r.isSome w e w') : ∃ A c, e = .returned (.tuple #[.slice A q.length c, .bool true]) ∧ OwnI w' w.heap.size A q.length c (ints q) ∧ Below w.heap.size w w' := by
  subst hr
  obtain ⟨A, c, rfl, hown, hb⟩ := h
  have e : (optL (some q)).length = q.length := ints_len q
  rw [e] at hown ⊢
  exact ⟨A, c, rfl, hown, hb⟩
set_option maxHeartbeats 1000000 in
theorem implIntervalObstacle_any (N : Int) (A : Option Addr) (n c : Nat) (X : List Int) (w : World) (hX : RI w A n X) (hn : n ≤ 9223372036854775807) :
    Calls Try.prog 46 #[.agg #[.int .i64 N, .slice A n c]] w (GivesIB (optL (ivObsOf N X)) (ivObsOf N X).isSome w) := by
  rcases hr : holeOf N X with _ | q
  · have HR := Lib.hid (show ivObsOf N X = tripOf N X from or_none_ hr)
    have H1 := Lib.hid hr
    clear hr
    go_enter Try.func46, Try.ntmps46
    have hbk := Blk.new w 27 #[.int .i64 N, .slice A n c]
    go_wp2_with fail
    refine (implFindHole_any N A n c X _ (hX.up (by go_grown)) hn).mono ?_
    intro e w1 h1
    obtain ⟨A1, m1, c1, rfl, hb1⟩ := h1.out_none H1.out
    have hU1 : Up w w1 := Up.then_ (by go_grown) hb1
    replace hbk := hbk.up hb1
    have hyb := hbk.two
    have hlb := hbk.lt
    go_wp2_with fail
    refine (implFindTriple_any N A n c X _ (hX.up (Up.then_ hU1 (by go_grown))) hn).mono ?_
    rintro e w2 ⟨A2, c2, rfl, hown, hb2⟩
    have hU2 : Up w1 w2 := Up.then_ (by go_grown) hb2
    have hU12 := Up.then_ hU1 hU2
    have hbs : w.heap.size ≤ w1.heap.size := hU1.size
    go_wp2
    go_ret2
    rw [HR.out]
    exact ⟨A2, c2, rfl, hown.more (by simpa using hbs), hU12⟩
  · have HR := Lib.hid (show ivObsOf N X = some q from or_some_ hr)
    have H1 := Lib.hid hr
    clear hr
    go_enter Try.func46, Try.ntmps46
    go_wp2_with fail
    refine (implFindHole_any N A n c X _ (hX.up (by go_grown)) hn).mono ?_
    intro e w1 h1
    obtain ⟨A1, c1, rfl, hown, hb1⟩ := h1.out_some H1.out
    have hU1 : Up w w1 := Up.then_ (by go_grown) hb1
    go_wp2
    go_ret2
    rw [HR.out]
    exact givesIB_some hown (by simp) hU1
set_option maxHeartbeats 1000000 in
theorem implProperObstacle_any (N : Int) (A : Option Addr) (n c : Nat) (X : List Int) (w : World) (hX : RI w A n X) (hn : n ≤ 9223372036854775807) :
    Calls Try.prog 48 #[.agg #[.int .i64 N, .slice A n c]] w (GivesIB (optL (prObsOf N X)) (prObsOf N X).isSome w) := by
  rcases hr : clawOf N X with _ | q
  · have HR := Lib.hid (show prObsOf N X = ivObsOf N X from or_none_ hr)
    have H1 := Lib.hid hr
    clear hr
    go_enter Try.func48, Try.ntmps48
    have hbk := Blk.new w 27 #[.int .i64 N, .slice A n c]
    go_wp2_with fail
    refine (implFindClaw_any N A n c X _ (hX.up (by go_grown)) hn).mono ?_
    intro e w1 h1
    obtain ⟨A1, m1, c1, rfl, hb1⟩ := h1.out_none H1.out
    have hU1 : Up w w1 := Up.then_ (by go_grown) hb1
    replace hbk := hbk.up hb1
    have hyb := hbk.two
    have hlb := hbk.lt
    go_wp2_with fail
    refine (implIntervalObstacle_any N A n c X _ (hX.up (Up.then_ hU1 (by go_grown))) hn).mono ?_
    rintro e w2 ⟨A2, c2, rfl, hown, hb2⟩
    have hU2 : Up w1 w2 := Up.then_ (by go_grown) hb2
    have hU12 := Up.then_ hU1 hU2
    have hbs : w.heap.size ≤ w1.heap.size := hU1.size
    go_wp2
    go_ret2
    rw [HR.out]
    exact ⟨A2, c2, rfl, hown.more (by simpa using hbs), hU12⟩
  · have HR := Lib.hid (show prObsOf N X = some q from or_some_ hr)
    have H1 := Lib.hid hr
    clear hr
    go_enter Try.func48, Try.ntmps48
    go_wp2_with fail
    refine (implFindClaw_any N A n c X _ (hX.up (by go_grown)) hn).mono ?_
    intro e w1 h1
    obtain ⟨A1, c1, rfl, hown, hb1⟩ := h1.out_some H1.out
    have hU1 : Up w w1 := Up.then_ (by go_grown) hb1
    go_wp2
    go_ret2
    rw [HR.out]
    exact givesIB_some hown (by simp) hU1
set_option maxHeartbeats 1000000 in
theorem specIntervalObstacle_any (N : Int) (A : Option Addr) (n c : Nat) (X : List Int) (w : World) (hX : RI w A n X) (hn : n ≤ 9223372036854775807) :
    Calls Try.prog 45 #[.agg #[.int .i64 N, .slice A n c]] w (GivesIB (optL (ivObsOf N X)) (ivObsOf N X).isSome w) := by
  rcases hr : holeOf N X with _ | q
  · have HR := Lib.hid (show ivObsOf N X = tripOf N X from or_none_ hr)
    have H1 := Lib.hid hr
    clear hr
    go_enter Try.func45, Try.ntmps45
    have hbk := Blk.new w 27 #[.int .i64 N, .slice A n c]
    go_wp2_with fail
    refine (specFindHole_any N A n c X _ (hX.up (by go_grown)) hn).mono ?_
    intro e w1 h1
    obtain ⟨A1, m1, c1, rfl, hb1⟩ := h1.out_none H1.out
    have hU1 : Up w w1 := Up.then_ (by go_grown) hb1
    replace hbk := hbk.up hb1
    have hyb := hbk.two
    have hlb := hbk.lt
    go_wp2_with fail
    refine (specFindTriple_any N A n c X _ (hX.up (Up.then_ hU1 (by go_grown))) hn).mono ?_
    rintro e w2 ⟨A2, c2, rfl, hown, hb2⟩
    have hU2 : Up w1 w2 := Up.then_ (by go_grown) hb2
    have hU12 := Up.then_ hU1 hU2
    have hbs : w.heap.size ≤ w1.heap.size := hU1.size
    go_wp2
    go_ret2
    rw [HR.out]
    exact ⟨A2, c2, rfl, hown.more (by simpa using hbs), hU12⟩
  · have HR := Lib.hid (show ivObsOf N X = some q from or_some_ hr)
    have H1 := Lib.hid hr
    clear hr
    go_enter Try.func45, Try.ntmps45
    go_wp2_with fail
    refine (specFindHole_any N A n c X _ (hX.up (by go_grown)) hn).mono ?_
    intro e w1 h1
    obtain ⟨A1, c1, rfl, hown, hb1⟩ := h1.out_some H1.out
    have hU1 : Up w w1 := Up.then_ (by go_grown) hb1
    go_wp2
    go_ret2
    rw [HR.out]
    exact givesIB_some hown (by simp) hU1
set_option maxHeartbeats 1000000 in
theorem specProperObstacle_any (N : Int) (A : Option Addr) (n c : Nat) (X : List Int) (w : World) (hX : RI w A n X) (hn : n ≤ 9223372036854775807) :
    Calls Try.prog 47 #[.agg #[.int .i64 N, .slice A n c]] w (GivesIB (optL (prObsOf N X)) (prObsOf N X).isSome w) := by
  rcases hr : clawOf N X with _ | q
  · have HR := Lib.hid (show prObsOf N X = ivObsOf N X from or_none_ hr)
    have H1 := Lib.hid hr
    clear hr
    go_enter Try.func47, Try.ntmps47
    have hbk := Blk.new w 27 #[.int .i64 N, .slice A n c]
    go_wp2_with fail
    refine (specFindClaw_any N A n c X _ (hX.up (by go_grown)) hn).mono ?_
    intro e w1 h1
    obtain ⟨A1, m1, c1, rfl, hb1⟩ := h1.out_none H1.out
    have hU1 : Up w w1 := Up.then_ (by go_grown) hb1
    replace hbk := hbk.up hb1
    have hyb := hbk.two
    have hlb := hbk.lt
    go_wp2_with fail
    refine (specIntervalObstacle_any N A n c X _ (hX.up (Up.then_ hU1 (by go_grown))) hn).mono ?_
    rintro e w2 ⟨A2, c2, rfl, hown, hb2⟩
    have hU2 : Up w1 w2 := Up.then_ (by go_grown) hb2
    have hU12 := Up.then_ hU1 hU2
    have hbs : w.heap.size ≤ w1.heap.size := hU1.size
    go_wp2
    go_ret2
    rw [HR.out]
    exact ⟨A2, c2, rfl, hown.more (by simpa using hbs), hU12⟩
  · have HR := Lib.hid (show prObsOf N X = some q from or_some_ hr)
    have H1 := Lib.hid hr
    clear hr
    go_enter Try.func47, Try.ntmps47
    go_wp2_with fail
    refine (specFindClaw_any N A n c X _ (hX.up (by go_grown)) hn).mono ?_
    intro e w1 h1
    obtain ⟨A1, c1, rfl, hown, hb1⟩ := h1.out_some H1.out
    have hU1 : Up w w1 := Up.then_ (by go_grown) hb1
    go_wp2
    go_ret2
    rw [HR.out]
    exact givesIB_some hown (by simp) hU1
end Go.Proofs.Ytlcmfangecbdgaa
