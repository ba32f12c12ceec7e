/- Walks of chapter 10: IntervalModelOf. -/
import Derived.Test.YtnaoomchekhcgaaW10h
import Derived.Test.YtnaoomchekhcgaaW10b
namespace Go.Proofs.Ytnaoomchekhcgaa
open Go.RowKit
theorem GivesIB.out_none {w : World} {e : Ending} {w' : World} {r : Option (List Nat)} (hr : r = none) (h : GivesIB (optL r) r.isSome w e w') : ∃ A m c, e = .returned (.tuple #[.slice A m c, .bool false]) ∧ Below w.heap.size w w' := by
  subst hr
  obtain ⟨A, c, rfl, _, hb⟩ := h
  exact ⟨A, _, c, rfl, hb⟩
theorem GivesIB.out_some {w : World} {e : Ending} {w' : World} {r : Option (List Nat)} {q : List Nat} (hr : r = some q) (h : GivesIB (optL r) r.isSome w e w') : ∃ A c, e = .returned (.tuple #[.slice A q.length c, .bool true]) ∧ OwnI w' w.heap.size A q.length c (ints q) ∧ Below w.heap.size w w' := by
  subst hr
  obtain ⟨A, c, rfl, hown, hb⟩ := h
  have e : (optL (some q)).length = q.length := ints_len q
  rw [e] at hown ⊢
  exact ⟨A, c, rfl, hown, hb⟩
def ivmOf (N : Int) (X : List Int) : List Int × List Int × Bool :=
  match ordOf N X with
  | none => ([], [], false)
  | some q => (moL (ints q) N, moR (ints q) N, hasMo (ints q) N)
theorem ivmOf_none {N : Int} {X : List Int} (h : ordOf N X = none) : ivmOf N X = ([], [], false) := by rw [ivmOf, h]
theorem ivmOf_some {N : Int} {X : List Int} {q : List Nat} (h : ordOf N X = some q) : ivmOf N X = (moL (ints q) N, moR (ints q) N, hasMo (ints q) N) := by rw [ivmOf, h]
theorem ordOf_len {N : Int} {X : List Int} {r : List Nat} (h : ordOf N X = some r) : r.length ≤ 128 := by
  rcases Bool.eq_false_or_eq_true (elimOf N X).isSome with e | e
  · have hok := cliques_ok e
    rw [ordOf, cliqOrds_yes e] at h
    have := (ords_spec hok.1 (List.mem_of_head? h) (by simp)).1
    rw [this]
    simpa using hok.2.2
  · rw [ordOf, cliqOrds_no e] at h; cases h
set_option maxRecDepth 100000 in
set_option maxHeartbeats 2000000 in
theorem implIntervalModelOf_any (N : Int) (A : Option Addr) (n c : Nat) (X : List Int) (w : World) (hX : RI w A n X) (hn : n ≤ 9223372036854775807) :
    Calls Try.prog 30 #[.agg #[.int .i64 N, .slice A n c]] w (GivesTB (ivmOf N X).1 (ivmOf N X).2.1 (ivmOf N X).2.2 w) := by
  have hG := (Blk.new w 27 #[.int .i64 N, .slice A n c]).alloc (.cells #[.slice none 0 0, .slice none 0 0] 44)
  have hM : Blk ((w.alloc (.cells #[.int .i64 N, .slice A n c] 27)).alloc (.cells #[.slice none 0 0, .slice none 0 0] 44)) (w.heap.size + 1) 44 #[.slice none 0 0, .slice none 0 0] := Blk.new_at (by simp)
  have hU0 : Up w ((w.alloc (.cells #[.int .i64 N, .slice A n c] 27)).alloc (.cells #[.slice none 0 0, .slice none 0 0] 44)) := by go_grown
  rcases hr : ordOf N X with _ | q
  · have H1 := Lib.hid hr
    rw [ivmOf_none hr]
    clear hr
    go_enter Try.func30, Try.ntmps30
    go_wp2_with fail
    refine (implCliqueOrderOf_any N A n c X _ (hX.up hU0) hn).mono ?_
    intro e w1 h1
    obtain ⟨A1, m1, c1, rfl, hb1⟩ := h1.out_none H1.out
    have hU1 : Up w w1 := Up.then_ hU0 hb1
    replace hM := hM.up hb1
    have f0 := hM.frozen 0
    have f1 := hM.frozen 1
    have hy := hM.two
    have hl := hM.lt
    have hfin := ((hM.set_ 0 (.slice none 0 0)).set_ 1 (.slice none 0 0)).two
    have hbf := (hU1.setCell (p := ⟨w.heap.size + 1, 0, none⟩) (by simp) (.slice none 0 0)).setCell (p := ⟨w.heap.size + 1, 1, none⟩) (by simp) (.slice none 0 0)
    clear h1 hG
    go_wp2
    generalize (w1.setCell ⟨w.heap.size + 1, 0, none⟩ (.slice none 0 0)).setCell ⟨w.heap.size + 1, 1, none⟩ (.slice none 0 0) = Wf at hfin hbf ⊢
    refine bodyPost_ret (v := .tuple #[.agg #[.slice none 0 0, .slice none 0 0], .bool false]) ?_ rfl ?_
    · simp [results, Try.results30, go_sem, hfin]
    exact givesTB_none hbf
  · have H1 := Lib.hid hr
    have hql := ordOf_len hr
    rw [ivmOf_some hr]
    clear hr
    obtain ⟨ml, hml⟩ : ∃ ml, ml = moL (ints q) N := ⟨_, rfl⟩
    obtain ⟨mr, hmr⟩ : ∃ mr, mr = moR (ints q) N := ⟨_, rfl⟩
    obtain ⟨mb, hmb⟩ : ∃ mb, mb = hasMo (ints q) N := ⟨_, rfl⟩
    have HM := Lib.hid (And.intro hml (And.intro hmr hmb))
    rw [← hml, ← hmr, ← hmb]
    clear hml hmr hmb
    go_enter Try.func30, Try.ntmps30
    go_wp2_with fail
    refine (implCliqueOrderOf_any N A n c X _ (hX.up hU0) hn).mono ?_
    intro e w1 h1
    obtain ⟨A1, c1, rfl, hown1, hb1⟩ := h1.out_some H1.out
    have hU1 : Up w w1 := Up.then_ hU0 hb1
    replace hM := hM.up hb1
    replace hG := hG.up hb1
    have hyG := hG.two
    have hlG := hG.lt
    clear h1
    go_wp2_with fail
    refine (implModelOfOrder_any A1 q.length c1 (ints q) N w1 hown1.ri (by omega)).mono ?_
    rintro e w2 ⟨A2, c2, B2, d2, rfl, hoA, hoB, hne, hb2⟩
    rw [← HM.out.1] at hoA hne ⊢
    rw [← HM.out.2.1] at hoB hne ⊢
    rw [← HM.out.2.2]
    have hU2 := Up.then_ hU1 hb2
    replace hM := hM.up hb2
    have f0 := hM.frozen 0
    have f1 := hM.frozen 1
    have hy := hM.two
    have hl := hM.lt
    have hsz : w.heap.size ≤ w1.heap.size := hU1.size
    have hfin := ((hM.set_ 0 (.slice A2 ml.length c2)).set_ 1 (.slice B2 mr.length d2)).two
    have hA3 := (hoA.other_store (i := 0) hM (by decide) (.slice A2 ml.length c2)).other_store (i := 1) (hM.set_ 0 (.slice A2 ml.length c2)) (by decide) (.slice B2 mr.length d2)
    have hB3 := (hoB.other_store (i := 0) hM (by decide) (.slice A2 ml.length c2)).other_store (i := 1) (hM.set_ 0 (.slice A2 ml.length c2)) (by decide) (.slice B2 mr.length d2)
    have hbf := (hU2.setCell (p := ⟨w.heap.size + 1, 0, none⟩) (by simp) (.slice A2 ml.length c2)).setCell (p := ⟨w.heap.size + 1, 1, none⟩) (by simp) (.slice B2 mr.length d2)
    clear hyG hlG hoA hoB hG hown1
    go_wp2
    generalize (w2.setCell ⟨w.heap.size + 1, 0, none⟩ (.slice A2 ml.length c2)).setCell ⟨w.heap.size + 1, 1, none⟩ (.slice B2 mr.length d2) = Wf at hfin hA3 hB3 hbf ⊢
    refine bodyPost_ret (v := .tuple #[.agg #[.slice A2 ml.length c2, .slice B2 mr.length d2], .bool mb]) ?_ rfl ?_
    · simp [results, Try.results30, go_sem, hfin]
    exact ⟨A2, c2, B2, d2, rfl, hA3.more hsz, hB3.more hsz, hne, hbf⟩
set_option maxRecDepth 100000 in
set_option maxHeartbeats 2000000 in
theorem specIntervalModelOf_any (N : Int) (A : Option Addr) (n c : Nat) (X : List Int) (w : World) (hX : RI w A n X) (hn : n ≤ 9223372036854775807) :
    Calls Try.prog 29 #[.agg #[.int .i64 N, .slice A n c]] w (GivesTB (ivmOf N X).1 (ivmOf N X).2.1 (ivmOf N X).2.2 w) := by
  have hG := (Blk.new w 27 #[.int .i64 N, .slice A n c]).alloc (.cells #[.slice none 0 0, .slice none 0 0] 44)
  have hM : Blk ((w.alloc (.cells #[.int .i64 N, .slice A n c] 27)).alloc (.cells #[.slice none 0 0, .slice none 0 0] 44)) (w.heap.size + 1) 44 #[.slice none 0 0, .slice none 0 0] := Blk.new_at (by simp)
  have hU0 : Up w ((w.alloc (.cells #[.int .i64 N, .slice A n c] 27)).alloc (.cells #[.slice none 0 0, .slice none 0 0] 44)) := by go_grown
  rcases hr : ordOf N X with _ | q
  · have H1 := Lib.hid hr
    rw [ivmOf_none hr]
    clear hr
    go_enter Try.func29, Try.ntmps29
    go_wp2_with fail
    refine (specCliqueOrderOf_any N A n c X _ (hX.up hU0) hn).mono ?_
    intro e w1 h1
    obtain ⟨A1, m1, c1, rfl, hb1⟩ := h1.out_none H1.out
    have hU1 : Up w w1 := Up.then_ hU0 hb1
    replace hM := hM.up hb1
    have f0 := hM.frozen 0
    have f1 := hM.frozen 1
    have hy := hM.two
    have hl := hM.lt
    have hfin := ((hM.set_ 0 (.slice none 0 0)).set_ 1 (.slice none 0 0)).two
    have hbf := (hU1.setCell (p := ⟨w.heap.size + 1, 0, none⟩) (by simp) (.slice none 0 0)).setCell (p := ⟨w.heap.size + 1, 1, none⟩) (by simp) (.slice none 0 0)
    clear h1 hG
    go_wp2
    generalize (w1.setCell ⟨w.heap.size + 1, 0, none⟩ (.slice none 0 0)).setCell ⟨w.heap.size + 1, 1, none⟩ (.slice none 0 0) = Wf at hfin hbf ⊢
    refine bodyPost_ret (v := .tuple #[.agg #[.slice none 0 0, .slice none 0 0], .bool false]) ?_ rfl ?_
    · simp [results, Try.results29, go_sem, hfin]
    exact givesTB_none hbf
  · have H1 := Lib.hid hr
    have hql := ordOf_len hr
    rw [ivmOf_some hr]
    clear hr
    obtain ⟨ml, hml⟩ : ∃ ml, ml = moL (ints q) N := ⟨_, rfl⟩
    obtain ⟨mr, hmr⟩ : ∃ mr, mr = moR (ints q) N := ⟨_, rfl⟩
    obtain ⟨mb, hmb⟩ : ∃ mb, mb = hasMo (ints q) N := ⟨_, rfl⟩
    have HM := Lib.hid (And.intro hml (And.intro hmr hmb))
    rw [← hml, ← hmr, ← hmb]
    clear hml hmr hmb
    go_enter Try.func29, Try.ntmps29
    go_wp2_with fail
    refine (specCliqueOrderOf_any N A n c X _ (hX.up hU0) hn).mono ?_
    intro e w1 h1
    obtain ⟨A1, c1, rfl, hown1, hb1⟩ := h1.out_some H1.out
    have hU1 : Up w w1 := Up.then_ hU0 hb1
    replace hM := hM.up hb1
    replace hG := hG.up hb1
    have hyG := hG.two
    have hlG := hG.lt
    clear h1
    go_wp2_with fail
    refine (specModelOfOrder_any A1 q.length c1 (ints q) N w1 hown1.ri (by omega)).mono ?_
    rintro e w2 ⟨A2, c2, B2, d2, rfl, hoA, hoB, hne, hb2⟩
    rw [← HM.out.1] at hoA hne ⊢
    rw [← HM.out.2.1] at hoB hne ⊢
    rw [← HM.out.2.2]
    have hU2 := Up.then_ hU1 hb2
    replace hM := hM.up hb2
    have f0 := hM.frozen 0
    have f1 := hM.frozen 1
    have hy := hM.two
    have hl := hM.lt
    have hsz : w.heap.size ≤ w1.heap.size := hU1.size
    have hfin := (((hM.set_ 0 (.slice A2 ml.length c2)).set_ 1 (.slice B2 mr.length d2)).alloc (.cells #[.slice A2 ml.length c2, .slice B2 mr.length d2] 44)).two
    have hA3 := ((hoA.other_store (i := 0) hM (by decide) (.slice A2 ml.length c2)).other_store (i := 1) (hM.set_ 0 (.slice A2 ml.length c2)) (by decide) (.slice B2 mr.length d2)).alloc (.cells #[.slice A2 ml.length c2, .slice B2 mr.length d2] 44)
    have hB3 := ((hoB.other_store (i := 0) hM (by decide) (.slice A2 ml.length c2)).other_store (i := 1) (hM.set_ 0 (.slice A2 ml.length c2)) (by decide) (.slice B2 mr.length d2)).alloc (.cells #[.slice A2 ml.length c2, .slice B2 mr.length d2] 44)
    have hbf0 := (hU2.setCell (p := ⟨w.heap.size + 1, 0, none⟩) (by simp) (.slice A2 ml.length c2)).setCell (p := ⟨w.heap.size + 1, 1, none⟩) (by simp) (.slice B2 mr.length d2)
    have hbf := hbf0.alloc hbf0.size (.cells #[.slice A2 ml.length c2, .slice B2 mr.length d2] 44)
    clear hyG hlG hoA hoB hG hown1 hbf0
    go_wp2
    generalize ((w2.setCell ⟨w.heap.size + 1, 0, none⟩ (.slice A2 ml.length c2)).setCell ⟨w.heap.size + 1, 1, none⟩ (.slice B2 mr.length d2)).alloc (.cells #[.slice A2 ml.length c2, .slice B2 mr.length d2] 44) = Wf at hfin hA3 hB3 hbf ⊢
    refine bodyPost_ret (v := .tuple #[.agg #[.slice A2 ml.length c2, .slice B2 mr.length d2], .bool mb]) ?_ rfl ?_
    · simp [results, Try.results29, go_sem, hfin]
    exact ⟨A2, c2, B2, d2, rfl, hA3.more hsz, hB3.more hsz, hne, hbf⟩
end Go.Proofs.Ytnaoomchekhcgaa
