/- Walks of chapter 13: the reference's orientations. -/
import Derived.Test.YtcaoelihmkbedaaW13
namespace Go.Proofs.Ytcaoelihmkbedaa
open Go.RowKit

theorem range_nats {n : Nat} {T : List Int} (hl : T.length = n) (h : ∀ v, v < n → rangeOk n T v) : ∃ R, T = ints R ∧ R.length = n ∧ ∀ v, nb R v < 2 ^ n := by
  refine ⟨T.map Int.toNat, ints_nats fun i hi => (h i (by omega)).1, by simp [hl], fun v => ?_⟩
  by_cases hv : v < n
  · have := (rangeOk_nat (h v hv)).2
    have e : nb (T.map Int.toNat) v = nt T v := by simp [nb, nt, List.getD, List.getElem?_map]; cases T[v]? <;> rfl
    rw [e]; exact this
  · have : nb (T.map Int.toNat) v = 0 := getD_out (by simp [hl]; omega)
    rw [this]; exact Nat.two_pow_pos _
theorem pairOk_bits {Q R : List Nat} {v x : Nat} {e a b : Bool} (h0 : (nb Q v).testBit x = e) (h1 : (nb R v).testBit x = a) (h2 : (nb R x).testBit v = b) : pairOk Q (ints R) v x = ((e == (a || b)) && !(a && b)) := by
  rw [pairOk, nt_ints, nt_ints, h0, h1, h2]
set_option maxRecDepth 100000 in
set_option maxHeartbeats 2000000 in
theorem specIsOrientation_any (N : Int) (A B : Option Addr) (n m c d : Nat) (X T : List Int) (w : World) (hX : RI w A n X) (hT : RI w B m T) (hn : n ≤ 9223372036854775807) (hm : m ≤ 9223372036854775807) :
    Calls Try.prog 23 #[.agg #[.int .i64 N, .slice A n c], .agg #[.slice B m d]] w fun e w' => e = .returned (.bool (isOrient N X T)) ∧ Below w.heap.size w w' := by
  have hXX := Lib.hid hX.1
  have hTT := Lib.hid hT.1
  rcases isGraph_cases N X with hg | ⟨k, Q, rfl, rfl, h⟩
  · have Hg := Lib.hid hg
    have Hr := Lib.hid (isOrient_no (T := T) hg)
    clear hg
    go_enter Try.func23, Try.ntmps23
    go_wp2_with fail
    refine (specIsGraph_is (hX.up (by go_grown)) hn Hg.out).mono ?_
    rintro e w1 ⟨rfl, hb1⟩
    have hw1 : Below w.heap.size w w1 := Up.then_ (by go_grown) hb1
    obtain ⟨hc1, hf1⟩ := bcell hb1
    have hz1 := hb1.size
    try simp only [World.size_alloc] at hz1
    try simp only [World.size_setCell] at hz1
    try simp only [World.size_alloc] at hz1
    try simp only [World.size_drew] at hz1
    have hl1_0 : w.heap.size < w1.heap.size := by omega
    have hl1_1 : w.heap.size + 1 < w1.heap.size := by omega
    go_wp2
    go_ret
    exact ⟨ret_bool Hr.out.symm, by go_grown⟩
  · have hn7 := h.le
    obtain rfl : n = k := by have := hXX.out; rw [ints_len, h.len] at this; omega
    by_cases hmn : m = n
    · subst hmn
      have HR := Lib.hid (isOrient_ok h hTT.out)
      have hp := shl_p2 (k := m) (by omega)
      have hp1 := p2_le hn7
      go_enter Try.func23, Try.ntmps23
      go_wp2_with fail
      refine (specIsGraph_is (hX.up (by go_grown)) hn h.is).mono ?_
      rintro e w1 ⟨rfl, hb1⟩
      have hw1 : Below w.heap.size w w1 := Up.then_ (by go_grown) hb1
      obtain ⟨hc1, hf1⟩ := bcell hb1
      have hz1 := hb1.size
      try simp only [World.size_alloc] at hz1
      try simp only [World.size_setCell] at hz1
      try simp only [World.size_alloc] at hz1
      try simp only [World.size_drew] at hz1
      have hl1_0 : w.heap.size < w1.heap.size := by omega
      have hl1_1 : w.heap.size + 1 < w1.heap.size := by omega
      have hblk0 := ((Blk.new w 27 #[.int .i64 m, .slice A m c]).alloc (.cells #[.slice B m d] 37)).up hb1
      have hblo0 := (Blk.new_at (w := w.alloc (.cells #[.int .i64 m, .slice A m c] 27)) (t := 37) (cs := #[.slice B m d]) (g := w.heap.size + 1) (by simp)).up hb1
      clear hc1 hf1
      obtain ⟨hx0, hx1⟩ := hblk0.two
      have hy0 := hblo0.one
      go_wp2_with fail
      go_loopw [5] (fun i wr => ∃ k : Nat, k ≤ m ∧ i = .int .i64 k ∧ Below w1.heap.size w1 wr ∧ Hid (∀ v, v < k → rangeOk m T v)) (fun i _ => m - (intOf i).toNat)
      case atStart => exact ⟨0, Nat.zero_le _, rfl, Below.refl _ _, fun j h => absurd h (by omega)⟩
      case round =>
        obtain ⟨k, hk, rfl, hb, hall⟩ := hrel
        obtain ⟨wo, rfl⟩ : ∃ wo : World, wo = wr := ⟨_, rfl⟩
        clear hx0 hx1 hy0
        have hblk := hblk0.up hb
        have hblo := hblo0.up hb
        have hwr := Up.then_ hw1 hb
        obtain ⟨hx0, hx1⟩ := hblk.two
        have hy0 := hblo.one
        by_cases hlt : k < m
        · obtain ⟨b, rfl, _, hcb⟩ := (hT.up hwr).at_ hlt
          obtain ⟨z, hz⟩ : ∃ z, z = T.getD k 0 := ⟨_, rfl⟩
          rw [← hz] at hcb
          by_cases hneg : z < 0
          · have Hno := Lib.hid (orient_out (Q := Q) hlt (show ¬ rangeOk m T k from fun hh => absurd hh.1 (by omega)))
            have d0 : decide (z < 0) = true := by simpa using hneg
            clear hneg hz
            go_wp2_with fail
            go_quiet (fail)
            go_wp2
            go_ret
            exact ⟨ret_bool (HR.out.trans Hno.out).symm, below_drewN hwr _⟩
          · have d0 : decide (z < 0) = false := by simpa using hneg
            by_cases hbig : (p2 m : Int) ≤ z
            · have Hno := Lib.hid (orient_out (Q := Q) hlt (show ¬ rangeOk m T k from fun hh => absurd hh.2 (by rw [← hz]; exact Int.not_lt.2 hbig)))
              have d1 : decide ((p2 m : Int) ≤ z) = true := by simpa using hbig
              clear hneg hz hbig
              go_wp2_with fail
              go_quiet (fail)
              go_wp2
              go_ret
              exact ⟨ret_bool (HR.out.trans Hno.out).symm, below_drewN hwr _⟩
            · have HRg := Lib.hid (show rangeOk m T k from ⟨by omega, by rw [← hz]; exact Int.not_le.1 hbig⟩)
              have d1 : decide ((p2 m : Int) ≤ z) = false := by simpa using hbig
              clear hneg hz hbig
              go_wp2_with fail
              go_quiet (fail)
              go_wp2
              go_roundw
              case rel => exact ⟨k + 1, by omega, by go_num, below_drewN hb _, fun v hv => by
                rcases Nat.lt_succ_iff_lt_or_eq.1 hv with h' | rfl
                · exact hall.out v h'
                · exact HRg.out⟩
              case measure => simp [intOf]; omega
        · obtain rfl : k = m := by omega
          obtain ⟨R, rfl, hRl, hRr⟩ := range_nats hTT.out hall.out
          have HRr := Lib.hid hRr
          have HAll := Lib.hid hall.out
          clear hRl hRr hall hp hp1
          go_wp2_with fail
          go_loopw [6] (fun i wr => ∃ v : Nat, v ≤ k ∧ i = .int .i64 v ∧ Below wo.heap.size wo wr ∧ Hid (∀ a, a < v → ∀ x, x < k → pairOk Q (ints R) a x = true)) (fun i _ => k - (intOf i).toNat)
          case atStart => exact ⟨0, Nat.zero_le _, rfl, Below.refl _ _, fun j h => absurd h (by omega)⟩
          case round =>
            obtain ⟨v, hv, rfl, hb2, hall2⟩ := hrel
            obtain ⟨wv, rfl⟩ : ∃ wv : World, wv = wr := ⟨_, rfl⟩
            clear hx0 hx1 hy0
            have hblk2 := hblk.up hb2
            have hblo2 := hblo.up hb2
            have hw2 := Up.then_ hwr hb2
            obtain ⟨hx0, hx1⟩ := hblk2.two
            have hy0 := hblo2.one
            by_cases hvt : v < k
            · go_wp2_with fail
              go_loopw [7] (fun s wr => ∃ x : Nat, x ≤ k ∧ s = .int .i64 x ∧ Below wv.heap.size wv wr ∧ Hid (∀ y, y < x → pairOk Q (ints R) v y = true)) (fun s _ => k - (intOf s).toNat)
              case atStart => exact ⟨0, Nat.zero_le _, rfl, Below.refl _ _, fun j h => absurd h (by omega)⟩
              case round =>
                obtain ⟨x, hx, rfl, hb3, hall3⟩ := hrel
                obtain ⟨wx, rfl⟩ : ∃ wx : World, wx = wr := ⟨_, rfl⟩
                clear hx0 hx1 hy0
                have hblk3 := hblk2.up hb3
                have hblo3 := hblo2.up hb3
                have hw3 := Up.then_ hw2 hb3
                obtain ⟨hx0, hx1⟩ := hblk3.two
                have hy0 := hblo3.one
                by_cases hxt : x < k
                · obtain ⟨b, rfl, hcv⟩ := (hT.up hw3).nb_at hvt
                  obtain ⟨b', e', hcx⟩ := (hT.up hw3).nb_at hxt
                  injection e' with e'
                  subst e'
                  have hbv := bit_one (nb R v) x (small_of hn7 (HRr.out v))
                  have hbx := bit_one (nb R x) v (small_of hn7 (HRr.out x))
                  have hX3 := hX.up hw3
                  rcases Bool.eq_false_or_eq_true ((nb Q v).testBit x) with e0 | e0 <;> rcases Bool.eq_false_or_eq_true ((nb R v).testBit x) with e1 | e1 <;> rcases Bool.eq_false_or_eq_true ((nb R x).testBit v) with e2 | e2
                  · have Hno := Lib.hid (orient_pair hvt hxt ((pairOk_bits e0 e1 e2).trans (by rfl)))
                    have H0 := Lib.hid e0
                    rw [e1] at hbv
                    rw [e2] at hbx
                    clear e0 e1 e2
                    go_wp2_with fail
                    refine (l2Edge_is hX3 h hvt hxt H0.out).mono ?_
                    rintro e w2 ⟨rfl, hb4⟩
                    go_wp2
                    go_ret
                    exact ⟨ret_bool (HR.out.trans Hno.out).symm, Up.then_ hw3 hb4⟩
                  · have Hok := Lib.hid ((pairOk_bits e0 e1 e2).trans (show _ = true by rfl))
                    have H0 := Lib.hid e0
                    rw [e1] at hbv
                    rw [e2] at hbx
                    clear e0 e1 e2
                    go_wp2_with fail
                    refine (l2Edge_is hX3 h hvt hxt H0.out).mono ?_
                    rintro e w2 ⟨rfl, hb4⟩
                    go_wp2
                    go_roundw
                    case rel => exact ⟨x + 1, by omega, by go_num, Up.then_ hb3 hb4, fun y hy => by
                      rcases Nat.lt_succ_iff_lt_or_eq.1 hy with h' | rfl
                      · exact hall3.out y h'
                      · exact Hok.out⟩
                    case measure => simp [intOf]; omega
                  · have Hok := Lib.hid ((pairOk_bits e0 e1 e2).trans (show _ = true by rfl))
                    have H0 := Lib.hid e0
                    rw [e1] at hbv
                    rw [e2] at hbx
                    clear e0 e1 e2
                    go_wp2_with fail
                    refine (l2Edge_is hX3 h hvt hxt H0.out).mono ?_
                    rintro e w2 ⟨rfl, hb4⟩
                    go_wp2
                    go_roundw
                    case rel => exact ⟨x + 1, by omega, by go_num, Up.then_ hb3 hb4, fun y hy => by
                      rcases Nat.lt_succ_iff_lt_or_eq.1 hy with h' | rfl
                      · exact hall3.out y h'
                      · exact Hok.out⟩
                    case measure => simp [intOf]; omega
                  · have Hno := Lib.hid (orient_pair hvt hxt ((pairOk_bits e0 e1 e2).trans (by rfl)))
                    have H0 := Lib.hid e0
                    rw [e1] at hbv
                    rw [e2] at hbx
                    clear e0 e1 e2
                    go_wp2_with fail
                    refine (l2Edge_is hX3 h hvt hxt H0.out).mono ?_
                    rintro e w2 ⟨rfl, hb4⟩
                    go_wp2
                    go_ret
                    exact ⟨ret_bool (HR.out.trans Hno.out).symm, Up.then_ hw3 hb4⟩
                  · have Hno := Lib.hid (orient_pair hvt hxt ((pairOk_bits e0 e1 e2).trans (by rfl)))
                    have H0 := Lib.hid e0
                    rw [e1] at hbv
                    rw [e2] at hbx
                    clear e0 e1 e2
                    go_wp2_with fail
                    refine (l2Edge_is hX3 h hvt hxt H0.out).mono ?_
                    rintro e w2 ⟨rfl, hb4⟩
                    go_wp2
                    go_ret
                    exact ⟨ret_bool (HR.out.trans Hno.out).symm, Up.then_ hw3 hb4⟩
                  · have Hno := Lib.hid (orient_pair hvt hxt ((pairOk_bits e0 e1 e2).trans (by rfl)))
                    have H0 := Lib.hid e0
                    rw [e1] at hbv
                    rw [e2] at hbx
                    clear e0 e1 e2
                    go_wp2_with fail
                    refine (l2Edge_is hX3 h hvt hxt H0.out).mono ?_
                    rintro e w2 ⟨rfl, hb4⟩
                    go_wp2
                    go_ret
                    exact ⟨ret_bool (HR.out.trans Hno.out).symm, Up.then_ hw3 hb4⟩
                  · have Hno := Lib.hid (orient_pair hvt hxt ((pairOk_bits e0 e1 e2).trans (by rfl)))
                    have H0 := Lib.hid e0
                    rw [e1] at hbv
                    rw [e2] at hbx
                    clear e0 e1 e2
                    go_wp2_with fail
                    refine (l2Edge_is hX3 h hvt hxt H0.out).mono ?_
                    rintro e w2 ⟨rfl, hb4⟩
                    go_wp2
                    go_ret
                    exact ⟨ret_bool (HR.out.trans Hno.out).symm, Up.then_ hw3 hb4⟩
                  · have Hok := Lib.hid ((pairOk_bits e0 e1 e2).trans (show _ = true by rfl))
                    have H0 := Lib.hid e0
                    rw [e1] at hbv
                    rw [e2] at hbx
                    clear e0 e1 e2
                    go_wp2_with fail
                    refine (l2Edge_is hX3 h hvt hxt H0.out).mono ?_
                    rintro e w2 ⟨rfl, hb4⟩
                    go_wp2
                    go_roundw
                    case rel => exact ⟨x + 1, by omega, by go_num, Up.then_ hb3 hb4, fun y hy => by
                      rcases Nat.lt_succ_iff_lt_or_eq.1 hy with h' | rfl
                      · exact hall3.out y h'
                      · exact Hok.out⟩
                    case measure => simp [intOf]; omega
                · obtain rfl : x = k := by omega
                  go_wp2
                  go_roundw
                  case rel => exact ⟨v + 1, by omega, by go_num, hb2.trans (hb3.mono hb2.size), fun a ha => by
                    rcases Nat.lt_succ_iff_lt_or_eq.1 ha with h' | rfl
                    · exact hall2.out a h'
                    · exact hall3.out⟩
                  case measure => simp [intOf]; omega
            · obtain rfl : v = k := by omega
              go_wp2
              go_ret
              exact ⟨ret_bool (HR.out.trans (orient_all HAll.out hall2.out)).symm, hw2⟩
    · have Hr := Lib.hid (isOrient_len (N := (n : Int)) (X := ints Q) (T := T) (by rw [hTT.out, ints_len, h.len]; exact hmn))
      have hne : ((m : Int) != n) = true := by simp; omega
      go_enter Try.func23, Try.ntmps23
      go_wp2_with fail
      refine (specIsGraph_is (hX.up (by go_grown)) hn h.is).mono ?_
      rintro e w1 ⟨rfl, hb1⟩
      have hw1 : Below w.heap.size w w1 := Up.then_ (by go_grown) hb1
      obtain ⟨hc1, hf1⟩ := bcell hb1
      have hz1 := hb1.size
      try simp only [World.size_alloc] at hz1
      try simp only [World.size_setCell] at hz1
      try simp only [World.size_alloc] at hz1
      try simp only [World.size_drew] at hz1
      have hl1_0 : w.heap.size < w1.heap.size := by omega
      have hl1_1 : w.heap.size + 1 < w1.heap.size := by omega
      obtain ⟨hx0, hx1⟩ := (((Blk.new w 27 #[.int .i64 n, .slice A n c]).alloc (.cells #[.slice B m d] 37)).up hb1).two
      have hy0 := ((Blk.new_at (w := w.alloc (.cells #[.int .i64 n, .slice A n c] 27)) (t := 37) (cs := #[.slice B m d]) (g := w.heap.size + 1) (by simp)).up hb1).one
      go_wp2
      go_ret
      exact ⟨ret_bool Hr.out.symm, by go_grown⟩
end Go.Proofs.Ytcaoelihmkbedaa
