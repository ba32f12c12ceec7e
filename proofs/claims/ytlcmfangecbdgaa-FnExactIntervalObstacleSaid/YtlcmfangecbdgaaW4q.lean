/- Walks of chapter 4: FindClaw, the reference's. -/
import Derived.Test.YtlcmfangecbdgaaW4p
import Derived.Test.YtlcmfangecbdgaaW4k
namespace Go.Proofs.Ytlcmfangecbdgaa
open Go.RowKit
theorem specClaw_is {N : Int} {A B : Option Addr} {n c m d : Nat} {X l : List Int} {w : World} {r : Bool} (hX : RI w A n X) (hL : RI w B m l) (hn : n ≤ 9223372036854775807) (hm : m ≤ 9223372036854775807) (hr : isClawL N X l = r) :
    Calls Try.prog 70 #[.agg #[.int .i64 N, .slice A n c], .slice B m d] w fun e w' => e = .returned (.bool r) ∧ Below w.heap.size w w' := by
  subst hr; exact specIsClaw_any N A B n c m d X l w hX hL hn hm
set_option maxRecDepth 100000 in
set_option maxHeartbeats 4000000 in
theorem l4Four_any (N : Int) (A : Option Addr) (n c : Nat) (X : List Int) (w : World) (hX : RI w A n X) (hn : n ≤ 9223372036854775807) :
    Calls Try.prog 98 #[.agg #[.int .i64 N, .slice A n c], .int .i64 1] w (GivesIB (optL (clawOf N X)) (clawOf N X).isSome w) := by
  have hbk := Blk.new w 27 #[.int .i64 N, .slice A n c]
  have hyb := hbk.two
  have hU0 : Up w (w.alloc (.cells #[.int .i64 N, .slice A n c] 27)) := by go_grown
  obtain ⟨W, hW⟩ : ∃ W, W = w.alloc (.cells #[.int .i64 N, .slice A n c] 27) := ⟨_, rfl⟩
  rw [← hW] at hbk hyb hU0
  have hXW := hX.up hU0
  rcases isGraph_cases N X with hg | ⟨k, Q, rfl, rfl, h⟩
  · have H1 := Lib.hid hg
    rw [clawOf_no hg]
    clear hg
    go_enter Try.func98, Try.ntmps98
    go_wp2_with fail
    rw [← hW]
    clear hW
    go_loopw [6] (fun s wr => s = .int .i64 0 ∧ Up W wr) (fun _ _ => 0)
    case atStart => exact ⟨rfl, Up.refl _⟩
    case round =>
      obtain ⟨rfl, hb⟩ := hrel
      obtain ⟨wo, rfl⟩ : ∃ wo : World, wo = wr := ⟨_, rfl⟩
      have hyo := (hbk.up hb).two
      have hXo := hXW.up hb
      go_wp2_with fail
      refine (specIsGraph_is hXo hn H1.out).mono ?_
      rintro e w1 ⟨rfl, hb1⟩
      have hU1 := Up.then_ (Up.then_ hU0 hb) hb1
      have hown0 := OwnI.made (base := w1.heap.size) w1 (Nat.le_refl _)
      have hww := hU1.alloc hU1.size (.cells #[] 3)
      go_wp2
      go_ret2
      exact givesIB_none hown0 hU1.size hww
  · obtain rfl : n = k := by rw [← hX.1, ints_len, h.len]
    have hn7 := h.le
    have hn1 := h.pos
    have HO := Lib.hid (clawK_all h)
    have H1 := Lib.hid h.is
    obtain ⟨n2, hn2⟩ : ∃ n2, n2 = n * n := ⟨_, rfl⟩
    obtain ⟨n3, hn3⟩ : ∃ n3, n3 = n2 * n := ⟨_, rfl⟩
    obtain ⟨n4, hn4⟩ : ∃ n4, n4 = n3 * n := ⟨_, rfl⟩
    have l2 : n2 ≤ 49 := by rw [hn2]; exact Nat.mul_le_mul hn7 hn7
    have l3 : n3 ≤ 343 := by rw [hn3]; exact Nat.mul_le_mul l2 hn7
    have l4 : n4 ≤ 2401 := by rw [hn4]; exact Nat.mul_le_mul l3 hn7
    have p2' : 1 ≤ n2 := by rw [hn2]; exact Nat.mul_pos hn1 hn1
    have p3' : 1 ≤ n3 := by rw [hn3]; exact Nat.mul_pos p2' hn1
    have P2 := Lib.hid hn2
    have P3 := Lib.hid hn3
    have P4 := Lib.hid hn4
    have e2 : ((n : Int) * n) = (n2 : Int) := by rw [hn2, Int.natCast_mul]
    have e3 : ((n2 : Int) * n) = (n3 : Int) := by rw [hn3, Int.natCast_mul]
    have e4 : ((n3 : Int) * n) = (n4 : Int) := by rw [hn4, Int.natCast_mul]
    clear hn2 hn3 hn4
    have m2 : wrap64 ((n : Int) * n) = (n2 : Int) := by rw [e2]; exact IntWalk.wrap64_in _ ⟨by omega, by omega⟩
    have m3 : wrap64 ((n2 : Int) * n) = (n3 : Int) := by rw [e3]; exact IntWalk.wrap64_in _ ⟨by omega, by omega⟩
    have m4 : wrap64 ((n3 : Int) * n) = (n4 : Int) := by rw [e4]; exact IntWalk.wrap64_in _ ⟨by omega, by omega⟩
    have HM := Lib.hid (And.intro m2 (And.intro m3 m4))
    clear m2 m3 m4 e2 e3 e4
    have Z2 := Lib.hid (show n ≠ 0 ∧ n2 ≠ 0 ∧ n3 ≠ 0 from ⟨by omega, by omega, by omega⟩)
    have Z := Lib.hid (show ((n : Int) == 0) = false ∧ ((n2 : Int) == 0) = false ∧ ((n3 : Int) == 0) = false from ⟨by rw [beq_eq_false_iff_ne]; omega, by rw [beq_eq_false_iff_ne]; omega, by rw [beq_eq_false_iff_ne]; omega⟩)
    go_enter Try.func98, Try.ntmps98
    go_wp2_with fail
    rw [← hW]
    clear hW hyb
    go_loopw [6] (fun s wr => ∃ k : Nat, k ≤ n4 ∧ s = .int .i64 k ∧ Up W wr ∧ Hid (clawK n Q k = none)) (fun s _ => n4 - (intOf s).toNat)
    case atStart => exact ⟨0, by omega, rfl, Up.refl _, rfl⟩
    case round =>
      obtain ⟨k, hk, rfl, hb, hK⟩ := hrel
      obtain ⟨wo, rfl⟩ : ∃ wo : World, wo = wr := ⟨_, rfl⟩
      have hbko := hbk.up hb
      have hyo := hbko.two
      have hXo := hXW.up hb
      by_cases hkt : k < n4
      · have d1 : decide ((k : Int) < (n4 : Int)) = true := decide_eq_true (by omega)
        obtain ⟨m2, m3, m4⟩ := HM.out
        go_wp2_with (go_at_call 50; refine (specIsGraph_is hXo hn H1.out).mono ?_; rintro e w1 ⟨rfl, hb1⟩; have hy1 := (hbko.up hb1).two; have hl1 := (hbko.up hb1).lt)
        rw [m2, m3, m4]
        have i2 : IntKind.i64.wrap ((n : Int) * n) = (n2 : Int) := by rw [IntWalk.i64_left]; exact m2
        have i3 : IntKind.i64.wrap ((n2 : Int) * n) = (n3 : Int) := by rw [IntWalk.i64_left]; exact m3
        have z1 : ((n : Int) == 0) = false := Z.out.1
        have z2 : ((n2 : Int) == 0) = false := Z.out.2.1
        have z3 : ((n3 : Int) == 0) = false := Z.out.2.2
        have q1 : n ≠ 0 := Z2.out.1
        have q2 : n2 ≠ 0 := Z2.out.2.1
        have q3 : n3 ≠ 0 := Z2.out.2.2
        clear m2 m3 m4 z1 z2 z3
        go_region_held3 (fun _ => True) (first | exact trivial) (first | fail)
        obtain ⟨x0, y1, y2, x1, x2, x3, HF⟩ : ∃ x0 y1 y2 x1 x2 x3 : Nat, Hid ((IntKind.i64.wrap ((k : Int) / n3) = (x0 : Int) ∧ IntKind.i64.wrap ((k : Int) / n2) = (y1 : Int) ∧ IntKind.i64.wrap ((k : Int) / n) = (y2 : Int)) ∧ (((y1 : Int).tmod n = (x1 : Int)) ∧ ((y2 : Int).tmod n = (x2 : Int)) ∧ ((k : Int).tmod n = (x3 : Int))) ∧ four n k = [x0, x1, x2, x3]) := by
          have hw : ∀ m : Nat, IntKind.i64.wrap ((k : Int) / m) = ((k / m : Nat) : Int) := by
            intro m
            have hle := Nat.div_le_self k m
            rw [IntWalk.i64_left, ← Int.natCast_ediv]
            generalize k / m = q at hle
            exact IntWalk.wrap64_in _ ⟨by omega, by omega⟩
          exact ⟨k / n3, k / n2, k / n, k / n2 % n, k / n % n, k % n, Lib.hid ⟨⟨hw _, hw _, hw _⟩, ⟨rfl, rfl, rfl⟩, by rw [P3.out, P2.out]; rfl⟩⟩
        rw [HF.out.1.1, HF.out.1.2.1, HF.out.1.2.2, HF.out.2.1.1, HF.out.2.1.2.1, HF.out.2.1.2.2]
        obtain ⟨w2, hw2⟩ : ∃ w2, w2 = (w1.alloc (.cells #[.int .i64 (x0 : Int), .int .i64 (x1 : Int), .int .i64 (x2 : Int), .int .i64 (x3 : Int)] 3)).drew := ⟨_, rfl⟩
        have hbr : Blk w2 w1.heap.size 3 #[.int .i64 (x0 : Int), .int .i64 (x1 : Int), .int .i64 (x2 : Int), .int .i64 (x3 : Int)] := by rw [hw2]; exact (Blk.new w1 3 _).drew
        have hU2 : Up w1 w2 := by rw [hw2]; go_grown
        rw [← hw2]
        clear hw2
        have H4 := Lib.hid HF.out.2.2
        clear HF i2 i3 q1 q2 q3
        have hown2 : OwnI w2 w1.heap.size (some ⟨w1.heap.size, 0, none⟩) 4 4 (ints [x0, x1, x2, x3]) := hbr.own (Nat.le_refl _) rfl (by decide)
        have hbk2 := hbko.up (Up.then_ hb1 hU2)
        have hX2 := hXo.up (Up.then_ hb1 hU2)
        have hy2 := hbk2.two
        have hl2 := hbk2.lt
        have hW2 := Up.then_ hb (Up.then_ hb1 hU2)
        obtain ⟨b, hbe⟩ : ∃ b, b = isClawL n (ints Q) (ints [x0, x1, x2, x3]) := ⟨_, rfl⟩
        have E1 := Lib.hid hbe.symm
        have HC := Lib.hid (show holdsC n Q (four n k) = b by rw [H4.out]; exact hbe.symm)
        have hbs : w.heap.size ≤ w1.heap.size := (Up.then_ hU0 (Up.then_ hb hb1)).size
        clear hbe hy1 hl1 hbr hyo
        cases b
        · go_wp2_with (go_at_call 70; refine (specClaw_is (hX2.up (by go_grown)) hown2.ri hn (by omega) E1.out).mono ?_; rintro e w3 ⟨rfl, hb3⟩)
          have hW3 : Up W w3 := Up.then_ hW2 (Up.then_ (by go_grown) hb3)
          go_roundw
          case rel => exact ⟨k + 1, by omega, by go_num, hW3, clawK_none hK.out HC.out⟩
          case measure => simp [intOf]; omega
        · have HK := Lib.hid (show clawOf n (ints Q) = some [x0, x1, x2, x3] by rw [HO.out, ← P2.out, ← P3.out, ← P4.out, ← H4.out]; exact clawK_some hK.out HC.out n4 hkt)
          go_wp2_with (go_at_call 70; refine (specClaw_is (hX2.up (by go_grown)) hown2.ri hn (by omega) E1.out).mono ?_; rintro e w3 ⟨rfl, hb3⟩)
          have hU3 : Up w2 w3 := Up.then_ (by go_grown) hb3
          have hown3 := hown2.up hU3
          have hU03 := Up.then_ hU0 (Up.then_ hW2 hU3)
          go_ret2
          rw [HK.out]
          exact givesIB_some (q := [x0, x1, x2, x3]) hown3 hbs hU03
      · obtain rfl : k = n4 := by omega
        have HK := Lib.hid (show clawOf n (ints Q) = none by rw [HO.out, ← P2.out, ← P3.out, ← P4.out]; exact hK.out)
        have d1 : decide ((k : Int) < (k : Int)) = false := decide_eq_false (by omega)
        obtain ⟨m2, m3, m4⟩ := HM.out
        go_wp2_with (go_at_call 50; refine (specIsGraph_is hXo hn H1.out).mono ?_; rintro e w1 ⟨rfl, hb1⟩; have hy1 := (hbko.up hb1).two; have hl1 := (hbko.up hb1).lt)
        have hU1 := Up.then_ (Up.then_ hU0 hb) hb1
        have hown0 := OwnI.made (base := w1.heap.size) w1 (Nat.le_refl _)
        have hww := hU1.alloc hU1.size (.cells #[] 3)
        go_ret2
        rw [HK.out]
        exact givesIB_none hown0 hU1.size hww
theorem specFindClaw_any (N : Int) (A : Option Addr) (n c : Nat) (X : List Int) (w : World) (hX : RI w A n X) (hn : n ≤ 9223372036854775807) :
    Calls Try.prog 74 #[.agg #[.int .i64 N, .slice A n c]] w (GivesIB (optL (clawOf N X)) (clawOf N X).isSome w) := by
  go_enter Try.func74, Try.ntmps74
  go_wp2_with fail
  refine (l4Four_any N A n c X _ (hX.up (by go_grown)) hn).mono ?_
  rintro e w1 ⟨A1, c1, rfl, hown, hb1⟩
  have hU1 : Up w w1 := Up.then_ (by go_grown) hb1
  go_wp2
  go_ret2
  exact ⟨A1, c1, rfl, hown.more (by simp), hU1⟩
end Go.Proofs.Ytlcmfangecbdgaa
