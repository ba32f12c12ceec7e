/- Walks of chapter 11: the reference's first asteroidal triple. -/
import Derived.Test.YtlcmfangecbdgaaW11d
namespace Go.Proofs.Ytlcmfangecbdgaa
open Go.RowKit
set_option maxRecDepth 100000 in
set_option maxHeartbeats 2000000 in
theorem specFindTriple_any (N : Int) (A : Option Addr) (n d : Nat) (X : List Int) (w : World) (hX : RI w A n X) (hn : n ≤ 9223372036854775807) :
    Calls Try.prog 34 #[.agg #[.int .i64 N, .slice A n d]] w (GivesIB (optL (tripOf N X)) (tripOf N X).isSome w) := by
  have hbk := Blk.new w 27 #[.int .i64 N, .slice A n d]
  have hyb := hbk.two
  have hU0 : Up w (w.alloc (.cells #[.int .i64 N, .slice A n d] 27)) := by go_grown
  obtain ⟨W, hW⟩ : ∃ W, W = w.alloc (.cells #[.int .i64 N, .slice A n d] 27) := ⟨_, rfl⟩
  rcases isGraph_cases N X with hg | ⟨k, Q, rfl, rfl, h⟩
  · have H1 := Lib.hid hg
    rw [tripOf_no hg]
    clear hg
    rw [← hW] at hbk hyb hU0
    go_enter Try.func34, Try.ntmps34
    go_wp2_with fail
    rw [← hW]
    clear hW
    go_loopw [4] (fun s wr => s = .int .i64 0 ∧ Up W wr) (fun _ _ => 0)
    case atStart => exact ⟨rfl, Up.refl _⟩
    case round =>
      obtain ⟨rfl, hb⟩ := hrel
      obtain ⟨wo, rfl⟩ : ∃ wo : World, wo = wr := ⟨_, rfl⟩
      have hyo := (hbk.up hb).two
      have hXo := hX.up (Up.then_ hU0 hb)
      by_cases hN : 0 < N
      · have d1 : decide (0 < N) = true := decide_eq_true hN
        go_wp2_with (go_at_call 50; refine (specIsGraph_is hXo hn H1.out).mono ?_; rintro e w1 ⟨rfl, hb1⟩)
        have hU1 := Up.then_ (Up.then_ hU0 hb) hb1
        have hown0 := OwnI.made (base := w1.heap.size) w1 (Nat.le_refl _)
        have hww := hU1.alloc hU1.size (.cells #[] 3)
        go_ret2
        exact givesIB_none hown0 hU1.size hww
      · have d1 : decide (0 < N) = false := decide_eq_false hN
        have hU1 := Up.then_ hU0 hb
        have hown0 := OwnI.made (base := wo.heap.size) wo (Nat.le_refl _)
        have hww := hU1.alloc hU1.size (.cells #[] 3)
        go_wp2
        go_ret2
        exact givesIB_none hown0 hU1.size hww
  · obtain rfl : n = k := by rw [← hX.1, ints_len, h.len]
    rw [tripOf_ok h]
    have h7 := h.le
    rw [← hW] at hbk hyb hU0
    have hXW := hX.up hU0
    go_enter Try.func34, Try.ntmps34
    go_wp2_with fail
    rw [← hW]
    clear hW hyb
    have H1 := Lib.hid h.is
    go_loopw [4] (fun s wr => ∃ a : Nat, a ≤ n ∧ s = .int .i64 a ∧ Up W wr ∧ Hid (ftK (trA n (ints Q) n) a = none)) (fun s _ => n - (intOf s).toNat)
    case atStart => exact ⟨0, Nat.zero_le _, rfl, Up.refl _, rfl⟩
    case round =>
      obtain ⟨a, ha, rfl, hb, hno⟩ := hrel
      obtain ⟨wa, rfl⟩ : ∃ wa : World, wa = wr := ⟨_, rfl⟩
      have hya := (hbk.up hb).two
      by_cases han : a < n
      · have hXa := hXW.up hb
        go_wp2_with (go_at_call 50; refine (specIsGraph_is hXa hn H1.out).mono ?_; rintro e w1 ⟨rfl, hb1⟩; have hy1 := ((hbk.up hb).up hb1).two)
        have hba := Up.then_ hb hb1
        clear hya hy1
        go_loopw [5] (fun s wr => ∃ b : Nat, a < b ∧ b ≤ n ∧ s = .int .i64 b ∧ Up W wr ∧ Hid (ftK (trB n (ints Q) n a) b = none)) (fun s _ => n - (intOf s).toNat)
        case atStart => exact ⟨a + 1, by omega, by omega, by go_num, hba, ftK_low (fun k hk => trB_low hk) _ (Nat.le_refl _)⟩
        case round =>
          obtain ⟨b, hab, hbn, rfl, hb2, hno2⟩ := hrel
          obtain ⟨wb, rfl⟩ : ∃ wb : World, wb = wr := ⟨_, rfl⟩
          have hyw := (hbk.up hb2).two
          by_cases hbt : b < n
          · go_wp2_with fail
            clear hyw
            go_loopw [6] (fun s wr => ∃ c : Nat, b < c ∧ c ≤ n ∧ s = .int .i64 c ∧ Up W wr ∧ Hid (ftK (trC n (ints Q) a b) c = none)) (fun s _ => n - (intOf s).toNat)
            case atStart => exact ⟨b + 1, by omega, by omega, by go_num, hb2, ftK_low (fun k hk => trC_low hk) _ (Nat.le_refl _)⟩
            case round =>
              obtain ⟨c, hbc, hcn, rfl, hb3, hno3⟩ := hrel
              obtain ⟨wc, rfl⟩ : ∃ wc : World, wc = wr := ⟨_, rfl⟩
              have hyc := (hbk.up hb3).two
              by_cases hct : c < n
              · rcases Bool.eq_false_or_eq_true (isTrip n (ints Q) a b c) with e | e
                · have E := Lib.hid e
                  have HS := Lib.hid (ftK_some hno.out (show trA n (ints Q) n a = some [a, b, c] from ftK_some hno2.out (show trB n (ints Q) n a b = some [a, b, c] by rw [trB_at hab]; exact ftK_some hno3.out (trC_yes hbc e) n hct) n hbt) n han)
                  clear e
                  go_wp2_with fail
                  refine (specIsTriple_is (hXW.up hb3) hn E.out).mono ?_
                  rintro e w4 ⟨rfl, hb4⟩
                  have hown := row3_own (w := w4) (g := w4.heap.size) (base := w4.heap.size) rfl (Nat.le_refl _) (a : Int) (b : Int) (c : Int)
                  have hw4 := Up.then_ hU0 (Up.then_ hb3 hb4)
                  have hww := hw4.alloc hw4.size (.cells #[.int .i64 (a : Int), .int .i64 (b : Int), .int .i64 (c : Int)] 3)
                  go_wp2
                  go_ret2
                  rw [HS.out]
                  exact givesIB_some (q := [a, b, c]) hown hw4.size hww
                · have E := Lib.hid e
                  have HN := Lib.hid (ftK_none hno3.out (trC_no e))
                  clear e
                  go_wp2_with fail
                  refine (specIsTriple_is (hXW.up hb3) hn E.out).mono ?_
                  rintro e w4 ⟨rfl, hb4⟩
                  go_wp2
                  go_roundw
                  case rel => exact ⟨c + 1, by omega, by omega, by go_num, Up.then_ hb3 hb4, HN.out⟩
                  case measure => simp [intOf]; omega
              · obtain rfl : c = n := by omega
                have HN := Lib.hid (ftK_none hno2.out (show trB c (ints Q) c a b = none by rw [trB_at hab]; exact hno3.out))
                go_wp2
                go_roundw
                case rel => exact ⟨b + 1, by omega, by omega, by go_num, hb3, HN.out⟩
                case measure => simp [intOf]; omega
          · obtain rfl : b = n := by omega
            have HN := Lib.hid (ftK_none hno.out (show trA b (ints Q) b a = none from hno2.out))
            go_wp2
            go_roundw
            case rel => exact ⟨a + 1, by omega, by go_num, hb2, HN.out⟩
            case measure => simp [intOf]; omega
      · obtain rfl : a = n := by omega
        have hU1 := Up.then_ hU0 hb
        have hown0 := OwnI.made (base := wa.heap.size) wa (Nat.le_refl _)
        have hww := hU1.alloc hU1.size (.cells #[] 3)
        go_wp2
        go_ret2
        rw [hno.out]
        exact givesIB_none hown0 hU1.size hww
end Go.Proofs.Ytlcmfangecbdgaa
