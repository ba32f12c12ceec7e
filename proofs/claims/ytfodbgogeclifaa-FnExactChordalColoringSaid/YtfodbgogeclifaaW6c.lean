/- Walks of chapter 6: the colours of a chordal graph. -/
import Derived.Test.YtfodbgogeclifaaW6b
import Derived.Test.YtfodbgogeclifaaW6r
import Derived.Test.YtfodbgogeclifaaW7d
namespace Go.Proofs.Ytfodbgogeclifaa
open Go.RowKit
def chordL (N : Int) (X : List Int) : List Int := match elimOf N X with | none => [] | some o => colOf N X (ints o).reverse
theorem GivesI.ib {xs : List Int} {w : World} {e : Ending} {w' : World} (h : GivesI xs w e w') : ∃ A c, e = .returned (.slice A xs.length c) ∧ OwnI w' w.heap.size A xs.length c xs ∧ Below w.heap.size w w' := h
theorem elim_out {o : List Nat} {w w' : World} {e : Ending} (h : GivesIB (optL (some o)) (some o).isSome w e w') : ∃ A c, e = .returned (.tuple #[.slice A o.length c, .bool true]) ∧ OwnI w' w.heap.size A o.length c (ints o) ∧ Below w.heap.size w w' := by
  obtain ⟨A, c, h1, h2, h3⟩ := h
  have e : (optL (some o)).length = o.length := ints_len o
  rw [e] at h1 h2
  exact ⟨A, c, h1, h2, h3⟩
theorem GivesI.as {xs : List Int} {m : Nat} {w w' : World} {e : Ending} (h : GivesI xs w e w') (hl : xs.length = m) : ∃ A c, e = .returned (.slice A m c) ∧ OwnI w' w.heap.size A m c xs ∧ Below w.heap.size w w' := by
  subst hl; exact h
theorem rev_len {xs : List Int} {m : Nat} (h : xs.length = m) : xs.reverse.length = m := by rw [List.length_reverse]; exact h
theorem reversed_out {bd : Addr} {m d : Nat} {xs : List Int} {w : World} (hL : RI w (some bd) m xs) (h0 : 0 < m) (hm : m ≤ 1048576) :
    Calls Try.prog 92 #[.slice (some bd) m d] w fun e w' => ∃ A c, e = .returned (.slice A m c) ∧ OwnI w' w.heap.size A m c xs.reverse ∧ Below w.heap.size w w' :=
  (reversed_any bd m d xs w hL h0 hm).mono fun _ _ h => h.as (rev_len hL.1)
theorem l6Reverse_out {bd : Addr} {m d : Nat} {xs : List Int} {w : World} (hL : RI w (some bd) m xs) (hm : m ≤ 1048575) :
    Calls Try.prog 90 #[.slice (some bd) m d] w fun e w' => ∃ A c, e = .returned (.slice A m c) ∧ OwnI w' w.heap.size A m c xs.reverse ∧ Below w.heap.size w w' :=
  (l6Reverse_any bd m d xs w hL hm).mono fun _ _ h => h.as (rev_len hL.1)
set_option maxRecDepth 100000 in
set_option maxHeartbeats 400000 in
theorem implChordalColoring_any (N : Int) (A : Option Addr) (n c : Nat) (X : List Int) (w : World) (hX : RI w A n X) (hn : n ≤ 1048576) :
    Calls Try.prog 52 #[.agg #[.int .i64 N, .slice A n c]] w (GivesIB (chordL N X) (elimOf N X).isSome w) := by
  rcases he : elimOf N X with _ | o
  · rw [chordL, he]
    have HE := Lib.hid he
    clear he
    go_enter Try.func52, Try.ntmps52
    have hc := implEliminationOf_any N A n c X (w.alloc (.cells #[.int .i64 N, .slice A n c] 45)) (hX.up (by go_grown)) (by omega)
    rw [HE.out] at hc
    have Hc := Lib.hid hc
    clear hc
    go_wp2_with fail
    refine (Hc.out).mono ?_
    rintro e w1 ⟨A1, c1, rfl, hown1, hb1⟩
    have hU1 : Up w w1 := Up.then_ (by go_grown) hb1
    go_wp2
    go_ret2
    exact givesIB_none (OwnI.nil_ _ _) (Nat.le_refl _) hU1
  · have hg : ∃ (k : Nat) (Q : List Nat), N = k ∧ X = ints Q ∧ GOk k Q := by
      rcases isGraph_cases N X with hg | hg
      · rw [elimOf_no hg] at he; cases he
      · exact hg
    obtain ⟨k, Q, rfl, rfl, h⟩ := hg
    obtain rfl : n = k := by rw [← hX.1, ints_len, h.len]
    have hlen := elimOf_len h he
    have hcl : chordL n (ints Q) = colOf n (ints Q) (ints o).reverse := by rw [chordL, he]
    rw [hcl]
    have HE := Lib.hid he
    have Hrl := Lib.hid (show (ints o).reverse.length = o.length by rw [List.length_reverse, ints_len])
    clear he hcl
    go_enter Try.func52, Try.ntmps52
    have hc := implEliminationOf_any n A n c (ints Q) (w.alloc (.cells #[.int .i64 n, .slice A n c] 45)) (hX.up (by go_grown)) (by omega)
    rw [HE.out] at hc
    have Hc := Lib.hid (hc.mono fun _ _ h => elim_out h)
    clear hc
    go_wp2_with fail
    refine (Hc.out).mono ?_
    rintro e w1 ⟨A1, c1, rfl, hown1, hb1⟩
    have hU1 : Up w w1 := Up.then_ (by go_grown) hb1
    replace hX := hX.up hU1
    have hblk := (Blk.new w 45 #[.int .i64 n, .slice A n c]).up hb1
    have hyb := hblk.two
    have hlb := hblk.lt
    have hri1 : RI w1 A1 o.length (ints o) := hown1.ri
    obtain ⟨bd, rfl, _, _⟩ := hri1.addr (by omega)
    go_wp2_with fail
    go_wp2
    have hV0 : Up w1 w1.drew := (Up.refl _).drew
    go_region_held3 (fun w' => Up w1 w' ∧ (∀ b o, b < w1.heap.size → w'.cell? ⟨b, o, none⟩ = w1.cell? ⟨b, o, none⟩)) (first | exact (by exact ⟨hV2, fun _ _ hb => hV2.cell hb⟩) | exact (by exact ⟨hV1, fun _ _ hb => hV1.cell hb⟩) | exact (by exact ⟨hV0, fun _ _ hb => hV0.cell hb⟩)) (first | (go_at_call 92; refine (reversed_out (hri1.up hV0) (by omega) (by omega)).mono ?_; rintro e w20 ⟨A2, c2, rfl, hown2, hb20⟩; have hV1 := Up.then_ hV0 hb20) | (go_at_call 38; refine (implColorByOrder_any n A A2 n c o.length c2 (ints Q) (ints o).reverse _ (hX.up hV1) hown2.ri hn (by omega) hown2.cap.1 hown2.cap.2).mono ?_; rintro e w21 ⟨A3, c3, rfl, hown3, hb21⟩; have hV2 := Up.then_ hV1 hb21))
    have hU2 := hV2
    replace hX := hX.up hU2
    go_wp2
    go_ret2
    exact ⟨A3, c3, rfl, hown3.more (Nat.le_trans hU1.size (Nat.le_trans (by simp) hb20.size)), Up.then_ hU1 hU2⟩
set_option maxRecDepth 100000 in
set_option maxHeartbeats 400000 in
theorem specChordalColoring_any (N : Int) (A : Option Addr) (n c : Nat) (X : List Int) (w : World) (hX : RI w A n X) (hn : n ≤ 1048576) :
    Calls Try.prog 51 #[.agg #[.int .i64 N, .slice A n c]] w (GivesIB (chordL N X) (elimOf N X).isSome w) := by
  rcases he : elimOf N X with _ | o
  · rw [chordL, he]
    have HE := Lib.hid he
    clear he
    go_enter Try.func51, Try.ntmps51
    have hc := specEliminationOf_any N A n c X (w.alloc (.cells #[.int .i64 N, .slice A n c] 45)) (hX.up (by go_grown)) (by omega)
    rw [HE.out] at hc
    have Hc := Lib.hid hc
    clear hc
    go_wp2_with fail
    refine (Hc.out).mono ?_
    rintro e w1 ⟨A1, c1, rfl, hown1, hb1⟩
    have hU1 : Up w w1 := Up.then_ (by go_grown) hb1
    have hown2 := OwnI.made (base := w.heap.size) w1 hU1.size
    go_wp2
    go_ret2
    exact givesIB_none hown2 (Nat.le_refl _) (hU1.alloc hU1.size _)
  · have hg : ∃ (k : Nat) (Q : List Nat), N = k ∧ X = ints Q ∧ GOk k Q := by
      rcases isGraph_cases N X with hg | hg
      · rw [elimOf_no hg] at he; cases he
      · exact hg
    obtain ⟨k, Q, rfl, rfl, h⟩ := hg
    obtain rfl : n = k := by rw [← hX.1, ints_len, h.len]
    have hlen := elimOf_len h he
    have hcl : chordL n (ints Q) = colOf n (ints Q) (ints o).reverse := by rw [chordL, he]
    rw [hcl]
    have HE := Lib.hid he
    have Hrl := Lib.hid (show (ints o).reverse.length = o.length by rw [List.length_reverse, ints_len])
    clear he hcl
    go_enter Try.func51, Try.ntmps51
    have hc := specEliminationOf_any n A n c (ints Q) (w.alloc (.cells #[.int .i64 n, .slice A n c] 45)) (hX.up (by go_grown)) (by omega)
    rw [HE.out] at hc
    have Hc := Lib.hid (hc.mono fun _ _ h => elim_out h)
    clear hc
    go_wp2_with fail
    refine (Hc.out).mono ?_
    rintro e w1 ⟨A1, c1, rfl, hown1, hb1⟩
    have hU1 : Up w w1 := Up.then_ (by go_grown) hb1
    replace hX := hX.up hU1
    have hblk := (Blk.new w 45 #[.int .i64 n, .slice A n c]).up hb1
    have hyb := hblk.two
    have hlb := hblk.lt
    have hri1 : RI w1 A1 o.length (ints o) := hown1.ri
    obtain ⟨bd, rfl, _, _⟩ := hri1.addr (by omega)
    go_wp2_with fail
    go_wp2
    have hV0 : Up w1 w1.drew := (Up.refl _).drew
    go_region_held3 (fun w' => Up w1 w' ∧ (∀ b o, b < w1.heap.size → w'.cell? ⟨b, o, none⟩ = w1.cell? ⟨b, o, none⟩)) (first | exact (by exact ⟨hV2, fun _ _ hb => hV2.cell hb⟩) | exact (by exact ⟨hV1, fun _ _ hb => hV1.cell hb⟩) | exact (by exact ⟨hV0, fun _ _ hb => hV0.cell hb⟩)) (first | (go_at_call 90; refine (l6Reverse_out (hri1.up hV0) (by omega)).mono ?_; rintro e w20 ⟨A2, c2, rfl, hown2, hb20⟩; have hV1 := Up.then_ hV0 hb20) | (go_at_call 37; refine (specColorByOrder_any n A A2 n c o.length c2 (ints Q) (ints o).reverse _ (hX.up hV1) hown2.ri hn (by omega)).mono ?_; rintro e w21 ⟨A3, c3, rfl, hown3, hb21⟩; have hV2 := Up.then_ hV1 hb21))
    have hU2 := hV2
    replace hX := hX.up hU2
    go_wp2
    go_ret2
    exact ⟨A3, c3, rfl, hown3.more (Nat.le_trans hU1.size (Nat.le_trans (by simp) hb20.size)), Up.then_ hU1 hU2⟩
end Go.Proofs.Ytfodbgogeclifaa
