/- Walks of chapter 13: orientations. -/
import Derived.Test.YtcaoelihmkbedaaPure13
import Derived.Test.YtcaoelihmkbedaaW7c
namespace Go.Proofs.Ytcaoelihmkbedaa
open Go.RowKit

theorem nb_get {l : List Nat} {i : Nat} (hi : i < l.length) : nb l i = l[i] := by simp [nb, List.getD, List.getElem?_eq_getElem hi]
theorem hasZ_any (x : Int) (v : Nat) (w : World) (hv : v ≤ 62) : Calls Try.prog 62 #[.int .i64 x, .int .i64 v] w fun e w' => e = .returned (.bool (bitZ x v)) ∧ w' = w := by
  go_enter Try.func62, Try.ntmps62
  go_wp2
  go_ret
  exact ⟨rfl, rfl⟩
theorem hasZ_is {x : Int} {v : Nat} {w : World} {b : Bool} (hv : v ≤ 62) (h : bitZ x v = b) : Calls Try.prog 62 #[.int .i64 x, .int .i64 v] w fun e w' => e = .returned (.bool b) ∧ w' = w := by
  subst h; exact hasZ_any x v w hv

set_option maxRecDepth 100000 in
set_option maxHeartbeats 1000000 in
theorem implIsOrientation_any (N : Int) (A B : Option Addr) (n m c d : Nat) (X T : List Int) (w : World) (hX : RI w A n X) (hT : RI w B m T) (hn : n ≤ 9223372036854775807) (hm : m ≤ 9223372036854775807) (hf : Fits T) :
    Calls Try.prog 25 #[.agg #[.int .i64 N, .slice A n c], .agg #[.slice B m d]] w fun e w' => e = .returned (.bool (isOrient N X T)) ∧ Below w.heap.size w w' := by
  have hXX := Lib.hid hX.1
  have hTT := Lib.hid hT.1
  have HF := Lib.hid hf
  clear hf
  rcases isGraph_cases N X with hg | ⟨k, Q, rfl, rfl, h⟩
  · have Hg := Lib.hid hg
    have Hr := Lib.hid (isOrient_no (T := T) hg)
    clear hg
    go_enter Try.func25, Try.ntmps25
    go_wp2_with fail
    refine (implIsGraph_is (hX.up (by go_grown)) hn Hg.out).mono ?_
    rintro e w1 ⟨rfl, hb1⟩
    have hw1 : Below w.heap.size w w1 := Up.then_ (by go_grown) hb1
    obtain ⟨hc1, hf1⟩ := bcell hb1
    have hz1 := hb1.size
    try simp only [World.size_alloc] at hz1
    try simp only [World.size_setCell] at hz1
    try simp only [World.size_alloc] at hz1
    try simp only [World.size_drew] at hz1
    have hl1_0 : w.heap.size < w1.heap.size := by omega
    have hl1_1 : w.heap.size + 1 < w1.heap.size := by omega
    go_wp2
    go_ret
    exact ⟨ret_bool Hr.out.symm, by go_grown⟩
  · have hn7 := h.le
    obtain rfl : n = k := by have := hXX.out; rw [ints_len, h.len] at this; omega
    by_cases hmn : m = n
    · subst hmn
      have HR := Lib.hid (isOrient_ok h hTT.out)
      go_enter Try.func25, Try.ntmps25
      go_wp2_with fail
      refine (implIsGraph_is (hX.up (by go_grown)) hn h.is).mono ?_
      rintro e w1 ⟨rfl, hb1⟩
      have hw1 : Below w.heap.size w w1 := Up.then_ (by go_grown) hb1
      obtain ⟨hc1, hf1⟩ := bcell hb1
      have hz1 := hb1.size
      try simp only [World.size_alloc] at hz1
      try simp only [World.size_setCell] at hz1
      try simp only [World.size_alloc] at hz1
      try simp only [World.size_drew] at hz1
      have hl1_0 : w.heap.size < w1.heap.size := by omega
      have hl1_1 : w.heap.size + 1 < w1.heap.size := by omega
      have hblk0 := ((Blk.new w 27 #[.int .i64 m, .slice A m c]).alloc (.cells #[.slice B m d] 37)).up hb1
      have hblo0 := (Blk.new_at (w := w.alloc (.cells #[.int .i64 m, .slice A m c] 27)) (t := 37) (cs := #[.slice B m d]) (g := w.heap.size + 1) (by simp)).up hb1
      clear hc1 hf1
      obtain ⟨hx0, hx1⟩ := hblk0.two
      have hy0 := hblo0.one
      go_wp2_with fail
      go_loopw [23] (fun i wr => ∃ k : Nat, k ≤ m ∧ i = .int .i64 k ∧ Below w1.heap.size w1 wr ∧ Hid (∀ v, v < k → seen m Q T v)) (fun i _ => m - (intOf i).toNat)
      case atStart => exact ⟨0, Nat.zero_le _, rfl, Below.refl _ _, fun j h => absurd h (by omega)⟩
      case round =>
        obtain ⟨k, hk, rfl, hb, hall⟩ := hrel
        obtain ⟨wo, rfl⟩ : ∃ wo : World, wo = wr := ⟨_, rfl⟩
        clear hx0 hx1 hy0
        have hblk := hblk0.up hb
        have hblo := hblo0.up hb
        have hwr := Up.then_ hw1 hb
        obtain ⟨hx0, hx1⟩ := hblk.two
        have hy0 := hblo.one
        by_cases hlt : k < m
        · obtain ⟨b, rfl, _, hcb⟩ := (hT.up hwr).at_ hlt
          obtain ⟨a, rfl, hca⟩ := (hX.up hwr).nb_at hlt
          by_cases hr : rangeOk m T k
          · obtain ⟨e2, e3⟩ := rangeOk_nat hr
            have HRg := Lib.hid hr
            have Hlt := Lib.hid e3
            rw [e2] at hcb
            have hs := h.n7 e3
            have hs63 := small_of hn7 e3
            have hand := i64_dif7 hs (h.nb7 k)
            clear e2 e3 hr
            by_cases hd : dif (nt T k) (nb Q k) = 0
            · have HD := Lib.hid hd
              rw [hd] at hand
              clear hd
              go_wp2_with fail
              refine (implListOf_any (nb Q k) _ (h.nb7 k)).mono ?_
              intro e w2 hg
              obtain ⟨L, dd, rfl, hown, hb2⟩ := hg.out
              clear hg hand
              have hw2 : Below w.heap.size w w2 := Up.then_ hwr hb2
              have hblk2 := hblk.up hb2
              have hblo2 := hblo.up hb2
              have hri0 := hown.ri
              have hll := listOf_len (nb Q k)
              clear hx0 hx1 hy0 hca hcb
              go_wp2_with fail
              go_loopw [43] (fun s wr => ∃ j : Nat, j ≤ (listOf (nb Q k)).length ∧ s = .int .i64 j ∧ Below w2.heap.size w2 wr ∧ Hid (∀ i, i < j → (nt T k).testBit (nb (listOf (nb Q k)) i) ≠ bitZ (T.getD (nb (listOf (nb Q k)) i) 0) k)) (fun s _ => (listOf (nb Q k)).length - (intOf s).toNat)
              case atStart => exact ⟨0, Nat.zero_le _, rfl, Below.refl _ _, fun j h => absurd h (by omega)⟩
              case round =>
                obtain ⟨j, hj, rfl, hb3, hall2⟩ := hrel
                obtain ⟨wi, rfl⟩ : ∃ wi : World, wi = wr := ⟨_, rfl⟩
                have hblo3 := hblo2.up hb3
                have hw3 := Up.then_ hw2 hb3
                have hy0 := hblo3.one
                by_cases hjt : j < (listOf (nb Q k)).length
                · obtain ⟨l, rfl, hcl⟩ := (hri0.up hb3).list_at hjt
                  have hxn := nb_lt_n (h.lt k) hjt
                  have Hbit := Lib.hid (nb_list hjt).2
                  obtain ⟨x, hx⟩ : ∃ x, x = nb (listOf (nb Q k)) j := ⟨_, rfl⟩
                  have Hx := Lib.hid hx
                  rw [← hx] at hcl hxn Hbit
                  clear hx
                  obtain ⟨b', e', _, hcx⟩ := (hT.up hw3).at_ hxn
                  injection e' with e'
                  subst e'
                  obtain ⟨z, hz⟩ : ∃ z, z = T.getD x 0 := ⟨_, rfl⟩
                  have Hz := Lib.hid hz
                  rw [← hz] at hcx
                  clear hz
                  rcases Bool.eq_false_or_eq_true ((nt T k).testBit x) with e1 | e1 <;> rcases Bool.eq_false_or_eq_true (bitZ z k) with e2 | e2
                  · have Hno := Lib.hid (orient_no_same (Q := Q) (T := T) hn7 hlt hxn Hbit.out (by rw [e1, ← Hz.out, e2]))
                    have H1 := Lib.hid e1
                    have H2 := Lib.hid e2
                    clear e1 e2
                    go_wp2_with fail
                    go_quiet ((first | (go_at_call_of 62 (Value.int .i64 (nt T k)); exact Calls.quiet_of_same (has_is hs63 (by omega) H1.out)) | (go_at_call_of 62 (Value.int .i64 z); exact Calls.quiet_of_same (hasZ_is (by omega) H2.out))))
                    go_wp2
                    go_ret
                    exact ⟨ret_bool (HR.out.trans Hno.out).symm, below_drewN hw3 _⟩
                  · have Hok := Lib.hid (show (nt T k).testBit (nb (listOf (nb Q k)) j) ≠ bitZ (T.getD (nb (listOf (nb Q k)) j) 0) k by rw [← Hx.out, ← Hz.out, e1, e2]; decide)
                    have H1 := Lib.hid e1
                    have H2 := Lib.hid e2
                    clear e1 e2
                    go_wp2_with fail
                    go_quiet ((first | (go_at_call_of 62 (Value.int .i64 (nt T k)); exact Calls.quiet_of_same (has_is hs63 (by omega) H1.out)) | (go_at_call_of 62 (Value.int .i64 z); exact Calls.quiet_of_same (hasZ_is (by omega) H2.out))))
                    go_wp2
                    go_roundw
                    case rel => exact ⟨j + 1, by omega, by go_num, below_drewN hb3 _, fun i hi => by
                      rcases Nat.lt_succ_iff_lt_or_eq.1 hi with h' | rfl
                      · exact hall2.out i h'
                      · exact Hok.out⟩
                    case measure => simp [intOf]; omega
                  · have Hok := Lib.hid (show (nt T k).testBit (nb (listOf (nb Q k)) j) ≠ bitZ (T.getD (nb (listOf (nb Q k)) j) 0) k by rw [← Hx.out, ← Hz.out, e1, e2]; decide)
                    have H1 := Lib.hid e1
                    have H2 := Lib.hid e2
                    clear e1 e2
                    go_wp2_with fail
                    go_quiet ((first | (go_at_call_of 62 (Value.int .i64 (nt T k)); exact Calls.quiet_of_same (has_is hs63 (by omega) H1.out)) | (go_at_call_of 62 (Value.int .i64 z); exact Calls.quiet_of_same (hasZ_is (by omega) H2.out))))
                    go_wp2
                    go_roundw
                    case rel => exact ⟨j + 1, by omega, by go_num, below_drewN hb3 _, fun i hi => by
                      rcases Nat.lt_succ_iff_lt_or_eq.1 hi with h' | rfl
                      · exact hall2.out i h'
                      · exact Hok.out⟩
                    case measure => simp [intOf]; omega
                  · have Hno := Lib.hid (orient_no_same (Q := Q) (T := T) hn7 hlt hxn Hbit.out (by rw [e1, ← Hz.out, e2]))
                    have H1 := Lib.hid e1
                    have H2 := Lib.hid e2
                    clear e1 e2
                    go_wp2_with fail
                    go_quiet ((first | (go_at_call_of 62 (Value.int .i64 (nt T k)); exact Calls.quiet_of_same (has_is hs63 (by omega) H1.out)) | (go_at_call_of 62 (Value.int .i64 z); exact Calls.quiet_of_same (hasZ_is (by omega) H2.out))))
                    go_wp2
                    go_ret
                    exact ⟨ret_bool (HR.out.trans Hno.out).symm, below_drewN hw3 _⟩
                · obtain rfl : j = (listOf (nb Q k)).length := by omega
                  have Hs := Lib.hid (show seen m Q T k from ⟨HRg.out, HD.out, fun x hx he => by
                    obtain ⟨i, hi, hh⟩ := List.getElem_of_mem (mem_listOf.2 ⟨by omega, he⟩)
                    have := hall2.out i hi
                    have e : nb (listOf (nb Q k)) i = x := by rw [← hh]; exact nb_get hi
                    rw [e] at this
                    exact this⟩)
                  go_wp2
                  go_roundw
                  case rel => exact ⟨k + 1, by omega, by go_num, (hb.trans (hb2.mono hb.size)).trans (hb3.mono (Nat.le_trans hb.size hb2.size)), fun v hv => by
                    rcases Nat.lt_succ_iff_lt_or_eq.1 hv with h' | rfl
                    · exact hall.out v h'
                    · exact Hs.out⟩
                  case measure => simp [intOf]; omega
            · have Hno := Lib.hid (orient_no_sub hlt HRg.out hd)
              have hd' : (((dif (nt T k) (nb Q k) : Nat) : Int) != 0) = true := by rw [bne_iff_ne]; omega
              clear hd
              go_wp2
              go_ret
              exact ⟨ret_bool (HR.out.trans Hno.out).symm, hwr⟩
          · have Hno := Lib.hid (orient_out (Q := Q) hlt hr)
            have hd' := andNot_out hn7 (fits_at HF.out hTT.out hlt) hr (h.lt k)
            obtain ⟨z, hz⟩ : ∃ z, z = T.getD k 0 := ⟨_, rfl⟩
            rw [← hz] at hcb hd'
            clear hz hr
            go_wp2
            go_ret
            exact ⟨ret_bool (HR.out.trans Hno.out).symm, hwr⟩
        · obtain rfl : k = m := by omega
          go_wp2
          go_ret
          exact ⟨ret_bool (HR.out.trans (orient_of_seen h hall.out)).symm, hwr⟩
    · have Hr := Lib.hid (isOrient_len (N := (n : Int)) (X := ints Q) (T := T) (by rw [hTT.out, ints_len, h.len]; exact hmn))
      have hne : ((m : Int) != n) = true := by simp; omega
      go_enter Try.func25, Try.ntmps25
      go_wp2_with fail
      refine (implIsGraph_is (hX.up (by go_grown)) hn h.is).mono ?_
      rintro e w1 ⟨rfl, hb1⟩
      have hw1 : Below w.heap.size w w1 := Up.then_ (by go_grown) hb1
      obtain ⟨hc1, hf1⟩ := bcell hb1
      have hz1 := hb1.size
      try simp only [World.size_alloc] at hz1
      try simp only [World.size_setCell] at hz1
      try simp only [World.size_alloc] at hz1
      try simp only [World.size_drew] at hz1
      have hl1_0 : w.heap.size < w1.heap.size := by omega
      have hl1_1 : w.heap.size + 1 < w1.heap.size := by omega
      obtain ⟨hx0, hx1⟩ := (((Blk.new w 27 #[.int .i64 n, .slice A n c]).alloc (.cells #[.slice B m d] 37)).up hb1).two
      have hy0 := ((Blk.new_at (w := w.alloc (.cells #[.int .i64 n, .slice A n c] 27)) (t := 37) (cs := #[.slice B m d]) (g := w.heap.size + 1) (by simp)).up hb1).one
      go_wp2
      go_ret
      exact ⟨ret_bool Hr.out.symm, by go_grown⟩
end Go.Proofs.Ytcaoelihmkbedaa
