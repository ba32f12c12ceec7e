/- Walks of chapter 4: FindClaw, FindHole, the program's. -/
import Derived.Test.YtlcmfangecbdgaaW4g
namespace Go.Proofs.Ytlcmfangecbdgaa
open Go.RowKit
set_option maxHeartbeats 1000000 in
theorem implFindClaw_any (N : Int) (A : Option Addr) (n c : Nat) (X : List Int) (w : World) (hX : RI w A n X) (hn : n ≤ 9223372036854775807) :
    Calls Try.prog 75 #[.agg #[.int .i64 N, .slice A n c]] w (GivesIB (optL (clawOf N X)) (clawOf N X).isSome w) := by
  go_enter Try.func75, Try.ntmps75
  go_wp2_with fail
  refine (CFirst_any N A n 4 c w.heap.size X _ (hX.alloc _) hn (Blk.new _ _ _) (by omega) (by omega)).mono ?_
  rintro e w1 ⟨A1, c1, rfl, hown, hb1⟩
  have hU1 : Up w w1 := Up.then_ (by go_grown) hb1
  go_wp2
  go_ret2
  exact ⟨A1, c1, rfl, hown.more (by simp), hU1⟩
set_option maxRecDepth 100000 in
set_option maxHeartbeats 4000000 in
theorem implFindHole_any (N : Int) (A : Option Addr) (n c : Nat) (X : List Int) (w : World) (hX : RI w A n X) (hn : n ≤ 9223372036854775807) :
    Calls Try.prog 73 #[.agg #[.int .i64 N, .slice A n c]] w (GivesIB (optL (holeOf N X)) (holeOf N X).isSome w) := by
  obtain ⟨W0, hW0⟩ : ∃ W0, W0 = w.alloc (.cells #[.int .i64 N, .slice A n c] 27) := ⟨_, rfl⟩
  have hbk : Blk W0 w.heap.size 27 #[.int .i64 N, .slice A n c] := by rw [hW0]; exact Blk.new _ _ _
  have hU0 : Up w W0 := by rw [hW0]; go_grown
  have hs0 : W0.heap.size = w.heap.size + 1 := by rw [hW0]; simp
  have hX0 := hX.up hU0
  have HW := Lib.hid hW0
  clear hW0
  rcases isGraph_cases N X with hg | ⟨k, Q, rfl, rfl, h⟩
  · have HA := Lib.hid fun k => HAt_no (m := k) hg
    rw [holeOf_no hg]
    obtain ⟨M, hM⟩ : ∃ M, M = (if (7 : Int) < N then (7 : Int) else N) := ⟨_, rfl⟩
    have hM7 : M ≤ 7 := by rw [hM]; split <;> omega
    have hmin := hM.symm
    clear hg hM
    go_enter Try.func73, Try.ntmps73
    go_wp2_with fail
    rw [← HW.out]
    go_loopg [4] 8 (fun g s wr => ∃ (b k : Nat), s = .pointer (some ⟨b, 0, none⟩) ∧ w.heap.size + 1 ≤ b ∧ Blk wr b 3 #[.int .i64 (k : Nat)] ∧ Below (w.heap.size + 1) W0 wr ∧ 4 ≤ k ∧ k + g = 12)
    case atStart => exact ⟨w.heap.size + 1, 4, rfl, Nat.le_refl _, Blk.new_at hs0, by rw [← hs0]; exact by go_grown, by omega, by omega⟩
    case round =>
      obtain ⟨b, k, rfl, hbge, hbb, hb1, hk4, hkg⟩ := hrel
      obtain ⟨wo, rfl⟩ : ∃ wo : World, wo = wr := ⟨_, rfl⟩
      have hUp0 : Up W0 wo := by show Below W0.heap.size W0 wo; rw [hs0]; exact hb1
      have hXr := hX0.up hUp0
      have hbkr := hbk.below hb1 (Nat.lt_succ_self _)
      have hyk := hbkr.two
      have hyb := hbb.one
      have hlb := hbb.lt
      have hUw : Up w wo := Up.then_ hU0 hUp0
      clear hUp0
      by_cases hkM : (k : Int) ≤ M
      · have hk7 : k ≤ 7 := by omega
        have hfirst := HFirst_any N A n k c w.heap.size b X wo hXr hn hbkr hbb (by omega) hk7
        rw [HA.out] at hfirst
        go_wp2_with fail
        refine hfirst.mono ?_
        clear hfirst
        rintro e w1 ⟨A1, c1, rfl, _, hb2⟩
        have hU1 : Up wo w1 := hb2
        have hyb1 := (hbb.up hU1).one
        have hyk1 := (hbkr.up hU1).two
        have hsz := hb1.size
        have hsz1 := hU1.size
        have hle : w.heap.size + 1 ≤ w1.heap.size := by omega
        have hw1 := (hb1.trans (hb2.mono (by omega))).alloc hle (.cells #[.int .i64 ((k : Int) + 1)] 3)
        have hnew : Blk (w1.alloc (.cells #[.int .i64 ((k : Int) + 1)] 3)) w1.heap.size 3 #[.int .i64 ((k + 1 : Nat) : Int)] := by rw [Int.natCast_succ]; exact Blk.new w1 3 #[.int .i64 ((k : Int) + 1)]
        have hk4' : 4 ≤ k + 1 := by omega
        have hkg' : k + 1 + (gk - 1) = 12 := by omega
        have hgk : gk - 1 < gk := by omega
        have hwr : wrap64 ((k : Int) + 1) = (k : Int) + 1 := IntWalk.wrap64_in _ ⟨by omega, by omega⟩
        clear hsz hsz1 hkg hb1 hb2
        clear hyb hyk hlb hXr hbkr hbb hX0 hbk hX HA hM7 hk7 hkM hbge hUw hmin
        go_wp2
        go_roundg (gk - 1)
        case measure => exact hgk
        case rel => exact ⟨w1.heap.size, k + 1, rfl, hle, hnew, hw1, hk4', hkg'⟩
      · have dk : decide ((k : Int) ≤ M) = false := decide_eq_false hkM
        go_wp2
        go_ret2
        exact givesIB_none (OwnI.nil_ _ _) (Nat.le_refl _) hUw
  · obtain rfl : n = k := by rw [← hX.1, ints_len, h.len]
    have hn7 := h.le
    have HA := Lib.hid fun k => show HAt n (ints Q) k = holeM n Q k by rw [HAt_ok h, holeM, srchH_eq k [] (by simp)]
    have hmin : (if (7 : Int) < (n : Int) then (7 : Int) else (n : Int)) = (n : Int) := if_neg (by omega)
    have h7f : ¬ (7 : Int) < (n : Int) := by omega
    have HO := Lib.hid (holeOf_ok h)
    go_enter Try.func73, Try.ntmps73
    go_wp2_with fail
    rw [← HW.out]
    go_loopg [4] 8 (fun g s wr => ∃ (b k : Nat), s = .pointer (some ⟨b, 0, none⟩) ∧ w.heap.size + 1 ≤ b ∧ Blk wr b 3 #[.int .i64 (k : Nat)] ∧ Below (w.heap.size + 1) W0 wr ∧ 4 ≤ k ∧ k + g = 12 ∧ Hid ((k ≤ n + 1 ∨ k = 4) ∧ holeK n Q (k - 4) = none))
    case atStart => exact ⟨w.heap.size + 1, 4, rfl, Nat.le_refl _, Blk.new_at hs0, by rw [← hs0]; exact by go_grown, by omega, by omega, .inr rfl, rfl⟩
    case round =>
      obtain ⟨b, k, rfl, hbge, hbb, hb1, hk4, hkg, hK⟩ := hrel
      obtain ⟨wo, rfl⟩ : ∃ wo : World, wo = wr := ⟨_, rfl⟩
      have hUp0 : Up W0 wo := by show Below W0.heap.size W0 wo; rw [hs0]; exact hb1
      have hXr := hX0.up hUp0
      have hbkr := hbk.below hb1 (Nat.lt_succ_self _)
      have hyk := hbkr.two
      have hyb := hbb.one
      have hlb := hbb.lt
      have hUw : Up w wo := Up.then_ hU0 hUp0
      clear hUp0
      by_cases hkM : k ≤ n
      · have hk7 : k ≤ 7 := by omega
        have hfirst := HFirst_any n A n k c w.heap.size b (ints Q) wo hXr hn hbkr hbb (by omega) hk7
        rw [HA.out] at hfirst
        rcases hsr : holeM n Q k with _ | r
        · have HK := Lib.hid (show holeK n Q (k + 1 - 4) = none by
            have := holeK_none hK.out.2 (by rw [show k - 4 + 4 = k by omega]; exact hsr)
            rwa [show k - 4 + 1 = k + 1 - 4 by omega] at this)
          rw [hsr] at hfirst
          clear hsr
          go_wp2_with fail
          refine hfirst.mono ?_
          clear hfirst
          rintro e w1 ⟨A1, c1, rfl, _, hb2⟩
          have hU1 : Up wo w1 := hb2
          have hyb1 := (hbb.up hU1).one
          have hyk1 := (hbkr.up hU1).two
          have hsz := hb1.size
          have hsz1 := hU1.size
          have hle : w.heap.size + 1 ≤ w1.heap.size := by omega
          have hw1 := (hb1.trans (hb2.mono (by omega))).alloc hle (.cells #[.int .i64 ((k : Int) + 1)] 3)
          have hnew : Blk (w1.alloc (.cells #[.int .i64 ((k : Int) + 1)] 3)) w1.heap.size 3 #[.int .i64 ((k + 1 : Nat) : Int)] := by rw [Int.natCast_succ]; exact Blk.new w1 3 #[.int .i64 ((k : Int) + 1)]
          have hk4' : 4 ≤ k + 1 := by omega
          have hkg' : k + 1 + (gk - 1) = 12 := by omega
          have hgk : gk - 1 < gk := by omega
          have hwr : wrap64 ((k : Int) + 1) = (k : Int) + 1 := IntWalk.wrap64_in _ ⟨by omega, by omega⟩
          have hkn1 : k + 1 ≤ n + 1 := Nat.succ_le_succ hkM
          clear hsz hsz1 hkg hb1 hb2
          clear hyb hyk hlb hXr hbkr hbb hX0 hbk hX HA hk7 hkM hbge hUw hmin h7f HO hK hn7
          go_wp2
          go_roundg (gk - 1)
          case measure => exact hgk
          case rel => exact ⟨w1.heap.size, k + 1, rfl, hle, hnew, hw1, hk4', hkg', .inl hkn1, HK.out⟩
        · have HK := Lib.hid (show holeOf n (ints Q) = some r by rw [HO.out]; exact holeK_some hK.out.2 (by rw [show k - 4 + 4 = k by omega]; exact hsr) (n - 3) (by omega))
          rw [hsr] at hfirst
          clear hsr
          go_wp2_with fail
          refine hfirst.mono ?_
          clear hfirst
          rintro e w1 ⟨A1, c1, rfl, hown, hb2⟩
          have hUw1 := Up.then_ hUw hb2
          replace hown := hown.more (base' := w.heap.size) hUw.size
          go_wp2
          go_ret2
          rw [HK.out]
          exact ⟨A1, c1, rfl, hown, hUw1⟩
      · have HK := Lib.hid (show holeOf n (ints Q) = none by
          rw [HO.out, show n - 3 = k - 4 by have := hK.out.1; omega]
          exact hK.out.2)
        have dk : decide ((k : Int) ≤ (n : Int)) = false := decide_eq_false (by omega)
        go_wp2
        go_ret2
        rw [HK.out]
        exact givesIB_none (OwnI.nil_ _ _) (Nat.le_refl _) hUw
end Go.Proofs.Ytlcmfangecbdgaa
