/- Walks of chapter 9: the deepest point. -/
import Derived.Test.YthncdjcmlpiebaaGreatDoorW9b
import Derived.Test.YthncdjcmlpiebaaGreatDoorW3A
namespace Go.Proofs.YthncdjcmlpiebaaGreatDoor
open Go.RowKit
/-- The first of the points 0 to k - 1 that lies in most intervals, and in how many. -/
def deepK (L R : List Int) : Nat → Nat × Nat
  | 0 => (0, 0)
  | k + 1 => if (deepK L R k).2 < card (pointsCovered L R k) then (k, card (pointsCovered L R k)) else deepK L R k
set_option maxRecDepth 100000 in
theorem deepK_yes {L R : List Int} {k : Nat} (h : (deepK L R k).2 < card (pointsCovered L R k)) : deepK L R (k + 1) = (k, card (pointsCovered L R k)) := by rw [deepK, if_pos h]
set_option maxRecDepth 100000 in
theorem deepK_no {L R : List Int} {k : Nat} (h : ¬ (deepK L R k).2 < card (pointsCovered L R k)) : deepK L R (k + 1) = deepK L R k := by rw [deepK, if_neg h]
def deepPair (L R : List Int) : Int × Int := if isModel L R then (((deepK L R 100).1 : Int), ((deepK L R 100).2 : Int)) else (0, 0)
set_option maxRecDepth 100000 in
theorem deep_no {L R : List Int} (h : isModel L R = false) : deepPair L R = (0, 0) := by rw [deepPair, h]; rfl
set_option maxRecDepth 100000 in
theorem deep_yes {L R : List Int} (h : isModel L R = true) : deepPair L R = (((deepK L R 100).1 : Int), ((deepK L R 100).2 : Int)) := by rw [deepPair, if_pos h]
set_option maxRecDepth 100000 in
theorem pc_lt {L R : List Int} (h : isModel L R = true) (x : Int) : pointsCovered L R x < 128 := by
  rw [pointsCovered, if_pos h]
  exact Nat.lt_of_lt_of_le (pcK_lt L R x _) (Nat.pow_le_pow_right (n := 2) (by omega) (isModel_spec h).2.1)
set_option maxRecDepth 100000 in
set_option maxHeartbeats 1000000 in
theorem implDeepestPoint_any (A B : Option Addr) (n m ca cb : Nat) (L R : List Int) (w : World) (hL : RI w A n L) (hR : RI w B m R) (hn : n ≤ 1048576) (hm : m ≤ 1048576) :
    Calls Tryz.prog 9 #[.agg #[.slice A n ca, .slice B m cb]] w fun e w' => e = .returned (.tuple #[.int .i64 (deepPair L R).1, .int .i64 (deepPair L R).2]) ∧ Below w.heap.size w w' := by
  rcases Bool.eq_false_or_eq_true (isModel L R) with hg | hg
  · have HR := Lib.hid (deep_yes hg)
    have Hg := Lib.hid hg
    have Hpc := Lib.hid fun x => pc_lt hg x
    clear hg
    go_enter Tryz.func9, Tryz.ntmps9
    go_wp2_with fail
    refine (implIsModel_any A B n m ca cb L R _ (hL.up (by go_grown)) (hR.up (by go_grown)) hn hm).mono ?_
    rintro e w1 ⟨rfl, hb1⟩
    have hU1 : Up w w1 := Up.then_ (by go_grown) hb1
    have hblk := (Blk.new w 26 #[.slice A n ca, .slice B m cb]).up hb1
    rw [Hg.out]
    go_wp2_with fail
    go_loopw [4, 5, 11] (fun a b i wr => ∃ k : Nat, k ≤ 100 ∧ i = .int .i64 k ∧ a = .int .i64 (deepK L R k).1 ∧ b = .int .i64 (deepK L R k).2 ∧ Up w1 wr) (fun _ _ i _ => 100 - (intOf i).toNat)
    case atStart => exact ⟨0, by omega, rfl, rfl, rfl, Up.refl _⟩
    case round =>
      obtain ⟨k, hk, rfl, rfl, rfl, hb⟩ := hrel
      by_cases hlt : k < 100
      · have hpc := Hpc.out k
        have hcl := card_le (pointsCovered L R k)
        have hyb := (hblk.up hb).two
        have hlb := (hblk.up hb).lt
        have hwr := Up.then_ hU1 hb
        go_wp2_with fail
        refine (implPointsCovered_any A B n m ca cb L R k _ (hL.up hwr) (hR.up hwr) hn hm).mono ?_
        rintro e w2 ⟨rfl, hb2⟩
        have hU2 : Up wr w2 := Up.then_ (by go_grown) hb2
        go_wp2_with fail
        refine (implCountSet_any (pointsCovered L R k) _ hpc).mono ?_
        rintro e w3 ⟨rfl, hb3⟩
        have hU3 : Up w2 w3 := Up.then_ (by go_grown) hb3
        have hw3 := Up.then_ hb (Up.then_ hU2 hU3)
        by_cases e : (deepK L R k).2 < card (pointsCovered L R k)
        · have HK := Lib.hid (deepK_yes e)
          go_wp2
          go_roundw
          case rel => exact ⟨k + 1, by omega, by go_num, by rw [HK.out], by rw [HK.out], hw3⟩
          case measure => simp [intOf]; omega
        · have HK := Lib.hid (deepK_no e)
          go_wp2
          go_roundw
          case rel => exact ⟨k + 1, by omega, by go_num, by rw [HK.out], by rw [HK.out], hw3⟩
          case measure => simp [intOf]; omega
      · obtain rfl : k = 100 := by omega
        go_wp2
        go_ret2
        exact ⟨by rw [HR.out]; rfl, Up.then_ hU1 hb⟩
  · have HR := Lib.hid (deep_no hg)
    have Hg := Lib.hid hg
    clear hg
    go_enter Tryz.func9, Tryz.ntmps9
    go_wp2_with fail
    refine (implIsModel_any A B n m ca cb L R _ (hL.up (by go_grown)) (hR.up (by go_grown)) hn hm).mono ?_
    rintro e w1 ⟨rfl, hb1⟩
    have hU1 : Up w w1 := Up.then_ (by go_grown) hb1
    rw [Hg.out]
    go_wp2
    go_ret2
    exact ⟨by rw [HR.out]; rfl, hU1⟩
set_option maxRecDepth 100000 in
set_option maxHeartbeats 1000000 in
theorem specDeepestPoint_any (A B : Option Addr) (n m ca cb : Nat) (L R : List Int) (w : World) (hL : RI w A n L) (hR : RI w B m R) (hn : n ≤ 1048576) (hm : m ≤ 1048576) :
    Calls Tryz.prog 10 #[.agg #[.slice A n ca, .slice B m cb]] w fun e w' => e = .returned (.tuple #[.int .i64 (deepPair L R).1, .int .i64 (deepPair L R).2]) ∧ Below w.heap.size w w' := by
  rcases Bool.eq_false_or_eq_true (isModel L R) with hg | hg
  · have HR := Lib.hid (deep_yes hg)
    have Hg := Lib.hid hg
    have Hpc := Lib.hid fun x => pc_lt hg x
    clear hg
    go_enter Tryz.func10, Tryz.ntmps10
    go_wp2_with fail
    go_loopw [4, 5, 6] (fun a b i wr => ∃ k : Nat, k ≤ 100 ∧ i = .int .i64 k ∧ a = .int .i64 (deepK L R k).1 ∧ b = .int .i64 (deepK L R k).2 ∧ Blk wr w.heap.size 26 #[.slice A n ca, .slice B m cb] ∧ Below w.heap.size w wr) (fun _ _ i _ => 100 - (intOf i).toNat)
    case atStart => exact ⟨0, by omega, rfl, rfl, rfl, Blk.new _ _ _, by go_grown⟩
    case round =>
      obtain ⟨k, hk, rfl, rfl, rfl, hblk, hb⟩ := hrel
      by_cases hlt : k < 100
      · have hpc := Hpc.out k
        have hcl := card_le (pointsCovered L R k)
        have hk99 : (k : Int) ≤ 99 := by omega
        have yhblk := hblk.two
        have lhblk := hblk.lt
        go_wp2_with fail
        refine (specIsModel_any A B n m ca cb L R _ (hL.up hb) (hR.up hb) hn hm).mono ?_
        rintro e w1 ⟨rfl, hb1⟩
        have hU1 : Up wr w1 := Up.then_ (by go_grown) hb1
        replace hblk := hblk.up hU1
        replace yhblk := hblk.two
        replace lhblk := hblk.lt
        have hw1 := Up.then_ hb hU1
        rw [Hg.out]
        go_wp2_with fail
        refine (specPointsCovered_any A B n m ca cb L R k _ (hL.up hw1) (hR.up hw1) hn hm).mono ?_
        rintro e w2 ⟨rfl, hb2⟩
        have hU2 : Up w1 w2 := Up.then_ (by go_grown) hb2
        replace hblk := hblk.up hU2
        replace yhblk := hblk.two
        replace lhblk := hblk.lt
        go_wp2_with fail
        refine (specCountSet_any (pointsCovered L R k) _ hpc).mono ?_
        rintro e w3 ⟨rfl, hb3⟩
        have hU3 : Up w2 w3 := Up.then_ (by go_grown) hb3
        replace hblk := hblk.up hU3
        replace yhblk := hblk.two
        replace lhblk := hblk.lt
        have hw3 := Up.then_ hw1 (Up.then_ hU2 hU3)
        by_cases e : (deepK L R k).2 < card (pointsCovered L R k)
        · have HK := Lib.hid (deepK_yes e)
          go_wp2
          go_roundw
          case rel => exact ⟨k + 1, by omega, by go_num, by rw [HK.out], by rw [HK.out], hblk, hw3⟩
          case measure => simp [intOf]; omega
        · have HK := Lib.hid (deepK_no e)
          go_wp2
          go_roundw
          case rel => exact ⟨k + 1, by omega, by go_num, by rw [HK.out], by rw [HK.out], hblk, hw3⟩
          case measure => simp [intOf]; omega
      · obtain rfl : k = 100 := by omega
        go_wp2
        go_ret2
        exact ⟨by rw [HR.out]; rfl, hb⟩
  · have HR := Lib.hid (deep_no hg)
    have Hg := Lib.hid hg
    have hblk := Blk.new w 26 #[.slice A n ca, .slice B m cb]
    clear hg
    go_enter Tryz.func10, Tryz.ntmps10
    go_wp2_with fail
    go_loopw [4, 5, 6] (fun a b i wr => i = .int .i64 0 ∧ a = .int .i64 0 ∧ b = .int .i64 0 ∧ Blk wr w.heap.size 26 #[.slice A n ca, .slice B m cb] ∧ Below w.heap.size w wr) (fun _ _ i _ => (intOf i).toNat)
    case atStart => exact ⟨rfl, rfl, rfl, hblk, by go_grown⟩
    case round =>
      clear hblk
      obtain ⟨rfl, rfl, rfl, hblk, hb⟩ := hrel
      have yhblk := hblk.two
      have lhblk := hblk.lt
      go_wp2_with fail
      refine (specIsModel_any A B n m ca cb L R _ (hL.up hb) (hR.up hb) hn hm).mono ?_
      rintro e w1 ⟨rfl, hb1⟩
      have hU1 : Up wr w1 := Up.then_ (by go_grown) hb1
      replace hblk := hblk.up hU1
      replace yhblk := hblk.two
      replace lhblk := hblk.lt
      rw [Hg.out]
      go_wp2
      go_ret2
      exact ⟨by rw [HR.out]; rfl, Up.then_ hb hU1⟩
end Go.Proofs.YthncdjcmlpiebaaGreatDoor
