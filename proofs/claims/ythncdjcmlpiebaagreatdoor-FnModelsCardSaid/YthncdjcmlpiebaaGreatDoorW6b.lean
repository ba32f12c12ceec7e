/- Walks of chapter 6: the reference's elimination order. -/
import Derived.Test.YthncdjcmlpiebaaGreatDoorW6
namespace Go.Proofs.YthncdjcmlpiebaaGreatDoor
open Go.RowKit
set_option maxRecDepth 100000 in
set_option maxHeartbeats 4000000 in
theorem specEliminationOf_any (N : Int) (A : Option Addr) (n c : Nat) (X : List Int) (w : World) (hX : RI w A n X) (hn : n ≤ 9223372036854775807) :
    Calls Tryz.prog 85 #[.agg #[.int .i64 N, .slice A n c]] w (GivesIB (optL (elimOf N X)) (elimOf N X).isSome w) := by
  rcases isGraph_cases N X with hg | ⟨k, Q, rfl, rfl, h⟩
  · rw [elimOf_no hg]
    have H1 := Lib.hid hg
    clear hg
    go_enter Tryz.func85, Tryz.ntmps85
    go_wp2_with fail
    refine (specIsGraph_is (hX.up (by go_grown)) hn H1.out).mono ?_
    rintro e w1 ⟨rfl, hb1⟩
    have hU1 : Up w w1 := Up.then_ (by go_grown) hb1
    have hown0 := ((OwnI.made_at (w := w.alloc (.cells #[.int .i64 N, .slice A n c] 29)) (base := w.heap.size) (g := w.heap.size + 1) (by simp) (by omega)).up hb1)
    go_wp2
    go_ret2
    exact givesIB_none hown0 (Nat.le_refl _) hU1
  · obtain rfl : n = k := by rw [← hX.1, ints_len, h.len]
    rw [elimOf_ok h]
    have hn7 := h.le
    have hn1 := h.pos
    have hpp := p2_le hn7
    have hp1 := p2_pos n
    have hsh := shl_p2 (k := n) (by omega)
    have H2n := Lib.hid (show 2 ^ n = p2 n from rfl)
    have HR := Lib.hid (show 2 ^ n - 1 = p2 n - 1 from rfl)
    rw [HR.out]
    obtain ⟨R, hR⟩ : ∃ R, R = elimR Q 127 [] (p2 n - 1) := ⟨_, rfl⟩
    rw [← hR]
    replace hR := Lib.hid hR.symm
    go_enter Tryz.func85, Tryz.ntmps85
    have hXw := Lib.hid hX
    go_wp2_with fail
    refine (specIsGraph_is (hX.up (by go_grown)) hn h.is).mono ?_
    rintro e w1 ⟨rfl, hb1⟩
    have hU1 : Up w w1 := Up.then_ (by go_grown) hb1
    replace hX := hX.up hU1
    have hown1 := ((OwnI.made_at (w := w.alloc (.cells #[.int .i64 n, .slice A n c] 29)) (base := w.heap.size) (g := w.heap.size + 1) (by simp) (by omega)).up hb1)
    have hblk := ((Blk.new w 29 #[.int .i64 n, .slice A n c]).alloc (.cells #[] 3)).up hb1
    obtain ⟨a, rfl, _, _⟩ := hX.addr h.pos
    have hyb := hblk.two
    go_wp2_with fail
    clear hsh hyb
    go_loopw [4, 5] (fun s l wr => ∃ (acc : List Nat) (A' : Option Addr) (c' f L : Nat), s = .slice A' acc.length c' ∧ l = .int .i64 L ∧ OwnI wr w.heap.size A' acc.length c' (ints acc) ∧ Blk wr w.heap.size 29 #[.int .i64 n, .slice (some a) n c] ∧ Below w.heap.size w wr ∧ acc.length + L ≤ 127 ∧ L ≤ f ∧ L < 2 ^ n ∧ Hid (elimR Q f acc L = R)) (fun _ l _ => (intOf l).toNat)
    case atStart => exact ⟨[], _, _, 127, p2 n - 1, rfl, by go_num, hown1, hblk, hU1, by simp; omega, by omega, by rw [H2n.out]; omega, hR⟩
    case round =>
      clear hX hblk hown1
      obtain ⟨acc, A', c', f, L, rfl, rfl, hown, hblk, hb, hal, hLf, hLn, hel⟩ := hrel
      obtain ⟨wo, rfl⟩ : ∃ wo : World, wo = wr := ⟨_, rfl⟩
      have hX := hXw.out.up hb
      have hL7 : L < 128 := h.n7 hLn
      have Hel := Lib.hid hel.out
      clear hel
      by_cases hL0 : L = 0
      · subst hL0
        have e := Hel.out
        rw [elimR_zero] at e
        go_wp2
        go_ret2
        rw [← e]
        exact givesIB_some hown (Nat.le_refl _) hb
      · obtain ⟨P, hP⟩ : ∃ P : Nat → Bool, P = fun v => L.testBit v && spl Q L v := ⟨_, rfl⟩
        have HP := Lib.hid hP
        clear hP
        have hLp : 0 < L := by omega
        have hyb := hblk.two
        go_wp2_with fail
        go_loopw [6, 7] (fun fd i wr => ∃ j : Nat, j ≤ n ∧ i = .int .i64 ((n : Int) - 1 - j) ∧ fd = .int .i64 (lowK P n j) ∧ Up wo wr) (fun _ i _ => ((intOf i) + 1).toNat)
        case atStart => exact ⟨0, Nat.zero_le _, by go_num, rfl, Up.refl _⟩
        case round =>
          clear hyb
          obtain ⟨j, hj, rfl, rfl, hbj⟩ := hrel
          obtain ⟨wj, rfl⟩ : ∃ wj : World, wj = wr := ⟨_, rfl⟩
          by_cases hjn : j < n
          · obtain ⟨v, hv⟩ : ∃ v : Nat, v = n - (j + 1) := ⟨_, rfl⟩
            have hvn : v < n := by omega
            have hvi : (n : Int) - 1 - j = v := by omega
            rw [hvi]
            have hsub : (n : Int) - 1 - ((j + 1 : Nat) : Int) = (v : Int) - 1 := by omega
            have hXj := hX.up hbj
            have hyb := (hblk.up hbj).two
            have hbit := bit_one L v (by omega)
            rcases Bool.eq_false_or_eq_true (L.testBit v) with e1 | e1
            · rw [e1] at hbit
              rcases Bool.eq_false_or_eq_true (spl Q L v) with e2 | e2
              · have HN := Lib.hid (show lowK P n (j + 1) = v by rw [lowK, ← hv, if_pos (by rw [HP.out]; simp [e1, e2])])
                have E2 := Lib.hid e2
                clear e1 e2 hv
                go_wp2_with (go_at_call 133; refine (l6Simplicial_is (hXj.up (by go_grown)) h hLn hvn E2.out).mono ?_; rintro e w4 ⟨rfl, hb4⟩)
                go_roundw
                case rel => exact ⟨j + 1, by omega, by rw [hsub], by rw [HN.out], Up.then_ hbj hb4⟩
                case measure => first | (simp [intOf]; done) | (simp [intOf]; omega)
              · have HN := Lib.hid (show lowK P n (j + 1) = lowK P n j by rw [lowK, ← hv, if_neg (by rw [HP.out]; simp [e1, e2])])
                have E2 := Lib.hid e2
                clear e1 e2 hv
                go_wp2_with (go_at_call 133; refine (l6Simplicial_is (hXj.up (by go_grown)) h hLn hvn E2.out).mono ?_; rintro e w4 ⟨rfl, hb4⟩)
                go_roundw
                case rel => exact ⟨j + 1, by omega, by rw [hsub], by rw [HN.out], Up.then_ hbj hb4⟩
                case measure => first | (simp [intOf]; done) | (simp [intOf]; omega)
            · rw [e1] at hbit
              have HN := Lib.hid (show lowK P n (j + 1) = lowK P n j by rw [lowK, ← hv, if_neg (by rw [HP.out]; simp [e1])])
              clear e1 hv
              go_wp2
              go_roundw
              case rel => exact ⟨j + 1, by omega, by rw [hsub], by rw [HN.out], hbj⟩
              case measure => first | (simp [intOf]; done) | (simp [intOf]; omega)
          · obtain rfl : j = n := by omega
            have Hc := Lib.hid (lowK_cases P j j (Nat.le_refl _))
            have Hd := Lib.hid hLn
            rcases Hc.out with ⟨hl1, hl2⟩ | ⟨v, hl1, hl2, hl3, hl4, hl5⟩
            · rw [hl1]
              have HE := Lib.hid (elimR_none (f := f) (acc := acc) hL0 hLf (stp_none fun v _ hb => by
                have := hl2 v (by omega) (bit_lt Hd.out hb)
                rw [HP.out] at this
                simpa [hb] using this))
              clear hl1 hl2 Hc
              have hown5 := OwnI.made (base := w.heap.size) wj (Nat.le_trans hb.size hbj.size)
              go_wp2
              go_ret2
              have e := Hel.out
              rw [HE.out] at e
              rw [← e]
              exact givesIB_none hown5 (Nat.le_refl _) ((Up.then_ hb hbj).alloc (Nat.le_trans hb.size hbj.size) _)
            · rw [hl3]
              rw [HP.out] at hl4
              have hbv : L.testBit v = true := by simp at hl4; exact hl4.1
              have hsv : spl Q L v = true := by simp at hl4; exact hl4.2
              have HE := Lib.hid (elimR_some (f := f) (acc := acc) hL0 hLf (stp_some (by omega) hbv hsv fun u hu hbu => by
                have := hl5 u (by omega) hu
                rw [HP.out] at this
                simpa [hbu] using this))
              have hsb := sub_bit hbv
              have hdl := dif_bit_lt hbv
              have hsh := shl_p2 (k := v) (by omega)
              have hpv := p2_le (k := v) (by omega)
              have hvv : (0 : Int) ≤ v := by omega
              have hpe : 2 ^ v = p2 v := rfl
              rw [hpe] at hsb hdl
              have HS := Lib.hid (show (L : Int) - (p2 v : Nat) = ((dif L (p2 v) : Nat) : Int) by rw [← hsb.2]; exact (Int.ofNat_sub hsb.1).symm)
              have hws : wrap64 ((L : Int) - (p2 v : Nat)) = ((dif L (p2 v) : Nat) : Int) := by rw [HS.out]; unfold wrap64; omega
              obtain ⟨f', hf', HE'⟩ := HE.out
              have HE2 := Lib.hid (HE'.symm.trans Hel.out)
              clear HE HE' Hel Hc hl3 hl4 hl5 hbv hsv hpe
              have hcell := (Blk.new wj 3 #[.int .i64 (v : Int)]).one
              have hsz := Nat.le_trans hb.size hbj.size
              go_wp2_with (at_builtin; refine wpList_push rfl (.tmp 41) (.tmp 43) rfl (v : Int) rfl ((hown.up hbj).alloc _) ⟨wj.heap.size, 0, none⟩ rfl hcell (by omega) (by simp; omega) ?_; intro A7 c7 w7 hown7 hb7 hg7)
              go_roundw
              case rel =>
                have hU6 : Up wj (wj.alloc (.cells #[.int .i64 (v : Int)] 3)) := by go_grown
                have hblk7 := ((hown.up hbj).alloc (.cells #[.int .i64 (v : Int)] 3)).keeps hg7 ((hblk.up hbj).alloc _) (by decide)
                have hb8 : Below w.heap.size w w7 := (Up.then_ (Up.then_ hb hbj) hU6).trans hb7
                exact ⟨acc ++ [v], A7, c7, f', dif L (p2 v), by rw [← push_len], by rw [hws], hown7.cast push_len (by rw [ints_snoc]), hblk7, hb8, by rw [← push_len]; omega, by omega, Nat.lt_of_le_of_lt (by omega) hLn, HE2⟩
              case measure => first | (simp [intOf]; done) | (simp [intOf]; omega)
end Go.Proofs.YthncdjcmlpiebaaGreatDoor
