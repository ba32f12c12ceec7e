/- Walks of chapter 13: transitive orientations. -/
import Derived.Test.YtcaoelihmkbedaaW13b
namespace Go.Proofs.Ytcaoelihmkbedaa
open Go.RowKit

theorem implIsOrientation_is {N : Int} {A B : Option Addr} {n m c d : Nat} {X T : List Int} {w : World} {b : Bool} (hX : RI w A n X) (hT : RI w B m T) (hn : n ≤ 9223372036854775807) (hm : m ≤ 9223372036854775807) (hf : Fits T) (h : isOrient N X T = b) :
    Calls Try.prog 25 #[.agg #[.int .i64 N, .slice A n c], .agg #[.slice B m d]] w fun e w' => e = .returned (.bool b) ∧ Below w.heap.size w w' := by
  subst h; exact implIsOrientation_any _ _ _ _ _ _ _ _ _ _ hX hT hn hm hf
theorem specIsOrientation_is {N : Int} {A B : Option Addr} {n m c d : Nat} {X T : List Int} {w : World} {b : Bool} (hX : RI w A n X) (hT : RI w B m T) (hn : n ≤ 9223372036854775807) (hm : m ≤ 9223372036854775807) (h : isOrient N X T = b) :
    Calls Try.prog 23 #[.agg #[.int .i64 N, .slice A n c], .agg #[.slice B m d]] w fun e w' => e = .returned (.bool b) ∧ Below w.heap.size w w' := by
  subst h; exact specIsOrientation_any _ _ _ _ _ _ _ _ _ _ hX hT hn hm
theorem nb_dif_zero {a b : Nat} (ha : dif a b = 0) : a &&& b = a := by
  apply Nat.eq_of_testBit_eq
  intro i
  have := congrArg (fun y => y.testBit i) ha
  simp [testBit_dif] at this
  rw [Nat.testBit_and]
  revert this
  cases a.testBit i <;> cases b.testBit i <;> simp
theorem nb_dif_ne {a b : Nat} (ha : dif a b ≠ 0) : a &&& b ≠ a := by
  intro e
  apply ha
  apply Nat.eq_of_testBit_eq
  intro i
  have := congrArg (fun y => y.testBit i) e
  rw [testBit_dif, Nat.zero_testBit]
  simp [Nat.testBit_and] at this
  revert this
  cases a.testBit i <;> cases b.testBit i <;> simp
theorem transAt_ints (R : List Nat) (v x : Nat) : transAt (ints R) v x = (dif (nb R x) (nb R v) == 0) := by rw [transAt, nt_ints, nt_ints]
theorem trans_ints_all {n : Nat} {R : List Nat} (h : ∀ v, v < n → ∀ j, j < (listOf (nb R v)).length → dif (nb R (nb (listOf (nb R v)) j)) (nb R v) = 0) : trans n (ints R) = true :=
  trans_all fun v hv j hj => by rw [nt_ints] at hj ⊢; rw [transAt_ints, h v hv j hj]; rfl
theorem trans_ints_out {n v j : Nat} {R : List Nat} (hv : v < n) (hj : j < (listOf (nb R v)).length) (h : dif (nb R (nb (listOf (nb R v)) j)) (nb R v) ≠ 0) : trans n (ints R) = false :=
  trans_out hv (by rw [nt_ints]; exact hj) (by rw [nt_ints, transAt_ints]; simpa using h)

set_option maxRecDepth 100000 in
set_option maxHeartbeats 2000000 in
theorem implIsTransitive_any (N : Int) (A B : Option Addr) (n m c d : Nat) (X T : List Int) (w : World) (hX : RI w A n X) (hT : RI w B m T) (hn : n ≤ 9223372036854775807) (hm : m ≤ 9223372036854775807) (hf : Fits T) :
    Calls Try.prog 46 #[.agg #[.int .i64 N, .slice A n c], .agg #[.slice B m d]] w fun e w' => e = .returned (.bool (isTrans N X T)) ∧ Below w.heap.size w w' := by
  have hTT := Lib.hid hT.1
  rcases isOrient_cases N X T with hg | ⟨k, Q, R, rfl, rfl, rfl, h, hRl, hRr, ho⟩
  · have Hg := Lib.hid hg
    have Hr := Lib.hid (isTrans_no hg)
    clear hg
    go_enter Try.func46, Try.ntmps46
    go_wp2_with fail
    refine (implIsOrientation_is (hX.up (by go_grown)) (hT.up (by go_grown)) hn hm hf Hg.out).mono ?_
    rintro e w1 ⟨rfl, hb1⟩
    have hw1 : Below w.heap.size w w1 := Up.then_ (by go_grown) hb1
    obtain ⟨hc1, hf1⟩ := bcell hb1
    have hz1 := hb1.size
    try simp only [World.size_alloc] at hz1
    try simp only [World.size_setCell] at hz1
    try simp only [World.size_alloc] at hz1
    try simp only [World.size_drew] at hz1
    have hl1_0 : w.heap.size < w1.heap.size := by omega
    have hl1_1 : w.heap.size + 1 < w1.heap.size := by omega
    go_wp2
    go_ret
    exact ⟨ret_bool Hr.out.symm, by go_grown⟩
  · have hn7 := h.le
    have Hgo := Lib.hid (show isOrient k (ints Q) (ints R) = true by rw [isOrient_ok h (by rw [ints_len, hRl]), ho])
    have HR := Lib.hid (isTrans_ok h ho hRl)
    obtain rfl : m = k := by have := hTT.out; rw [ints_len, hRl] at this; omega
    have HRr := Lib.hid hRr
    clear ho hRl hRr
    go_enter Try.func46, Try.ntmps46
    go_wp2_with fail
    refine (implIsOrientation_is (hX.up (by go_grown)) (hT.up (by go_grown)) hn hm hf Hgo.out).mono ?_
    rintro e w1 ⟨rfl, hb1⟩
    have hw1 : Below w.heap.size w w1 := Up.then_ (by go_grown) hb1
    obtain ⟨hc1, hf1⟩ := bcell hb1
    have hz1 := hb1.size
    try simp only [World.size_alloc] at hz1
    try simp only [World.size_setCell] at hz1
    try simp only [World.size_alloc] at hz1
    try simp only [World.size_drew] at hz1
    have hl1_0 : w.heap.size < w1.heap.size := by omega
    have hl1_1 : w.heap.size + 1 < w1.heap.size := by omega
    have hblo0 := (Blk.new_at (w := w.alloc (.cells #[.int .i64 m, .slice A n c] 27)) (t := 37) (cs := #[.slice B m d]) (g := w.heap.size + 1) (by simp)).up hb1
    clear hc1 hf1
    have hy0 := hblo0.one
    go_wp2_with fail
    go_loopw [16] (fun i wr => ∃ k : Nat, k ≤ m ∧ i = .int .i64 k ∧ Below w1.heap.size w1 wr ∧ Hid (∀ v, v < k → ∀ j, j < (listOf (nb R v)).length → dif (nb R (nb (listOf (nb R v)) j)) (nb R v) = 0)) (fun i _ => m - (intOf i).toNat)
    case atStart => exact ⟨0, Nat.zero_le _, rfl, Below.refl _ _, fun j h => absurd h (by omega)⟩
    case round =>
      obtain ⟨k, hk, rfl, hb, hall⟩ := hrel
      obtain ⟨wo, rfl⟩ : ∃ wo : World, wo = wr := ⟨_, rfl⟩
      clear hy0
      have hblo := hblo0.up hb
      have hwr := Up.then_ hw1 hb
      have hy0 := hblo.one
      by_cases hlt : k < m
      · obtain ⟨b, rfl, hcb⟩ := (hT.up hwr).nb_at hlt
        have hs := h.n7 (HRr.out k)
        go_wp2_with fail
        refine (implListOf_any (nb R k) _ hs).mono ?_
        intro e w2 hg
        obtain ⟨L, dd, rfl, hown, hb2⟩ := hg.out
        clear hg
        have hw2 : Below w.heap.size w w2 := Up.then_ hwr hb2
        have hblo2 := hblo.up hb2
        have hri0 := hown.ri
        have hll := listOf_len (nb R k)
        clear hy0 hcb
        go_wp2_with fail
        go_loopw [23] (fun s wr => ∃ j : Nat, j ≤ (listOf (nb R k)).length ∧ s = .int .i64 j ∧ Below w2.heap.size w2 wr ∧ Hid (∀ i, i < j → dif (nb R (nb (listOf (nb R k)) i)) (nb R k) = 0)) (fun s _ => (listOf (nb R k)).length - (intOf s).toNat)
        case atStart => exact ⟨0, Nat.zero_le _, rfl, Below.refl _ _, fun j h => absurd h (by omega)⟩
        case round =>
          obtain ⟨j, hj, rfl, hb3, hall2⟩ := hrel
          obtain ⟨wi, rfl⟩ : ∃ wi : World, wi = wr := ⟨_, rfl⟩
          have hblo3 := hblo2.up hb3
          have hw3 := Up.then_ hw2 hb3
          have hy0 := hblo3.one
          by_cases hjt : j < (listOf (nb R k)).length
          · obtain ⟨l, rfl, hcl⟩ := (hri0.up hb3).list_at hjt
            have hxn := nb_lt_n (HRr.out k) hjt
            obtain ⟨b', e', hcx⟩ := (hT.up hw3).nb_at hxn
            injection e' with e'
            subst e'
            have hand := i64_dif7 (h.n7 (HRr.out (nb (listOf (nb R k)) j))) hs
            by_cases hd : dif (nb R (nb (listOf (nb R k)) j)) (nb R k) = 0
            · have HD := Lib.hid hd
              rw [hd] at hand
              clear hd
              go_wp2
              go_roundw
              case rel => exact ⟨j + 1, by omega, by go_num, hb3, fun i hi => by
                rcases Nat.lt_succ_iff_lt_or_eq.1 hi with h' | rfl
                · exact hall2.out i h'
                · exact HD.out⟩
              case measure => simp [intOf]; omega
            · have Hno := Lib.hid (trans_ints_out hlt hjt hd)
              have hd' : (((dif (nb R (nb (listOf (nb R k)) j)) (nb R k) : Nat) : Int) != 0) = true := by rw [bne_iff_ne]; omega
              clear hd
              go_wp2
              go_ret
              exact ⟨ret_bool (HR.out.trans Hno.out).symm, hw3⟩
          · obtain rfl : j = (listOf (nb R k)).length := by omega
            go_wp2
            go_roundw
            case rel => exact ⟨k + 1, by omega, by go_num, (hb.trans (hb2.mono hb.size)).trans (hb3.mono (Nat.le_trans hb.size hb2.size)), fun v hv => by
              rcases Nat.lt_succ_iff_lt_or_eq.1 hv with h' | rfl
              · exact hall.out v h'
              · exact hall2.out⟩
            case measure => simp [intOf]; omega
      · obtain rfl : k = m := by omega
        go_wp2
        go_ret
        exact ⟨ret_bool (HR.out.trans (trans_ints_all hall.out)).symm, hwr⟩
set_option maxRecDepth 100000 in
set_option maxHeartbeats 2000000 in
theorem specIsTransitive_any (N : Int) (A B : Option Addr) (n m c d : Nat) (X T : List Int) (w : World) (hX : RI w A n X) (hT : RI w B m T) (hn : n ≤ 9223372036854775807) (hm : m ≤ 9223372036854775807) :
    Calls Try.prog 45 #[.agg #[.int .i64 N, .slice A n c], .agg #[.slice B m d]] w fun e w' => e = .returned (.bool (isTrans N X T)) ∧ Below w.heap.size w w' := by
  have hTT := Lib.hid hT.1
  rcases isOrient_cases N X T with hg | ⟨k, Q, R, rfl, rfl, rfl, h, hRl, hRr, ho⟩
  · have Hg := Lib.hid hg
    have Hr := Lib.hid (isTrans_no hg)
    clear hg
    go_enter Try.func45, Try.ntmps45
    go_wp2_with fail
    refine (specIsOrientation_is (hX.up (by go_grown)) (hT.up (by go_grown)) hn hm Hg.out).mono ?_
    rintro e w1 ⟨rfl, hb1⟩
    have hw1 : Below w.heap.size w w1 := Up.then_ (by go_grown) hb1
    obtain ⟨hc1, hf1⟩ := bcell hb1
    have hz1 := hb1.size
    try simp only [World.size_alloc] at hz1
    try simp only [World.size_setCell] at hz1
    try simp only [World.size_alloc] at hz1
    try simp only [World.size_drew] at hz1
    have hl1_0 : w.heap.size < w1.heap.size := by omega
    have hl1_1 : w.heap.size + 1 < w1.heap.size := by omega
    go_wp2
    go_ret
    exact ⟨ret_bool Hr.out.symm, by go_grown⟩
  · have hn7 := h.le
    have Hgo := Lib.hid (show isOrient k (ints Q) (ints R) = true by rw [isOrient_ok h (by rw [ints_len, hRl]), ho])
    have HR := Lib.hid (isTrans_ok h ho hRl)
    obtain rfl : m = k := by have := hTT.out; rw [ints_len, hRl] at this; omega
    have HRr := Lib.hid hRr
    clear ho hRl hRr
    go_enter Try.func45, Try.ntmps45
    go_wp2_with fail
    refine (specIsOrientation_is (hX.up (by go_grown)) (hT.up (by go_grown)) hn hm Hgo.out).mono ?_
    rintro e w1 ⟨rfl, hb1⟩
    have hw1 : Below w.heap.size w w1 := Up.then_ (by go_grown) hb1
    obtain ⟨hc1, hf1⟩ := bcell hb1
    have hz1 := hb1.size
    try simp only [World.size_alloc] at hz1
    try simp only [World.size_setCell] at hz1
    try simp only [World.size_alloc] at hz1
    try simp only [World.size_drew] at hz1
    have hl1_0 : w.heap.size < w1.heap.size := by omega
    have hl1_1 : w.heap.size + 1 < w1.heap.size := by omega
    have hblk0 := ((Blk.new w 27 #[.int .i64 m, .slice A n c]).alloc (.cells #[.slice B m d] 37)).up hb1
    have hblo0 := (Blk.new_at (w := w.alloc (.cells #[.int .i64 m, .slice A n c] 27)) (t := 37) (cs := #[.slice B m d]) (g := w.heap.size + 1) (by simp)).up hb1
    clear hc1 hf1
    obtain ⟨hx0, hx1⟩ := hblk0.two
    have hy0 := hblo0.one
    go_wp2_with fail
    go_loopw [5] (fun i wr => ∃ k : Nat, k ≤ m ∧ i = .int .i64 k ∧ Below w1.heap.size w1 wr ∧ Hid (∀ v, v < k → ∀ j, j < (listOf (nb R v)).length → dif (nb R (nb (listOf (nb R v)) j)) (nb R v) = 0)) (fun i _ => m - (intOf i).toNat)
    case atStart => exact ⟨0, Nat.zero_le _, rfl, Below.refl _ _, fun j h => absurd h (by omega)⟩
    case round =>
      obtain ⟨k, hk, rfl, hb, hall⟩ := hrel
      obtain ⟨wo, rfl⟩ : ∃ wo : World, wo = wr := ⟨_, rfl⟩
      clear hx0 hx1 hy0
      have hblk := hblk0.up hb
      have hblo := hblo0.up hb
      have hwr := Up.then_ hw1 hb
      obtain ⟨hx0, hx1⟩ := hblk.two
      have hy0 := hblo.one
      by_cases hlt : k < m
      · obtain ⟨b, rfl, hcb⟩ := (hT.up hwr).nb_at hlt
        have hs := h.n7 (HRr.out k)
        go_wp2_with fail
        refine (specListOf_any (nb R k) _ hs).mono ?_
        intro e w2 hg
        obtain ⟨L, dd, rfl, hown, hb2⟩ := hg.out
        clear hg
        have hw2 : Below w.heap.size w w2 := Up.then_ hwr hb2
        have hblo2 := hblo.up hb2
        have hri0 := hown.ri
        have hll := listOf_len (nb R k)
        clear hx0 hx1 hy0 hcb
        go_wp2_with fail
        go_loopw [7] (fun s wr => ∃ j : Nat, j ≤ (listOf (nb R k)).length ∧ s = .int .i64 j ∧ Below w2.heap.size w2 wr ∧ Hid (∀ i, i < j → dif (nb R (nb (listOf (nb R k)) i)) (nb R k) = 0)) (fun s _ => (listOf (nb R k)).length - (intOf s).toNat)
        case atStart => exact ⟨0, Nat.zero_le _, rfl, Below.refl _ _, fun j h => absurd h (by omega)⟩
        case round =>
          obtain ⟨j, hj, rfl, hb3, hall2⟩ := hrel
          obtain ⟨wi, rfl⟩ : ∃ wi : World, wi = wr := ⟨_, rfl⟩
          have hblo3 := hblo2.up hb3
          have hw3 := Up.then_ hw2 hb3
          have hy0 := hblo3.one
          by_cases hjt : j < (listOf (nb R k)).length
          · obtain ⟨l, rfl, hcl⟩ := (hri0.up hb3).list_at hjt
            have hxn := nb_lt_n (HRr.out k) hjt
            obtain ⟨b', e', hcx⟩ := (hT.up hw3).nb_at hxn
            injection e' with e'
            subst e'
            obtain ⟨b'', e'', hck⟩ := (hT.up hw3).nb_at hlt
            injection e'' with e''
            subst e''
            have hand := i64_and7 (h.n7 (HRr.out (nb (listOf (nb R k)) j))) hs
            by_cases hd : dif (nb R (nb (listOf (nb R k)) j)) (nb R k) = 0
            · have HD := Lib.hid hd
              rw [nb_dif_zero hd] at hand
              clear hd
              go_wp2_with fail
              go_quiet (fail)
              go_wp2
              go_roundw
              case rel => exact ⟨j + 1, by omega, by go_num, below_drewN hb3 _, fun i hi => by
                rcases Nat.lt_succ_iff_lt_or_eq.1 hi with h' | rfl
                · exact hall2.out i h'
                · exact HD.out⟩
              case measure => simp [intOf]; omega
            · have Hno := Lib.hid (trans_ints_out hlt hjt hd)
              have hd' : (((nb R (nb (listOf (nb R k)) j) &&& nb R k : Nat) : Int) != (nb R (nb (listOf (nb R k)) j) : Int)) = true := by
                rw [bne_iff_ne]
                exact fun e => nb_dif_ne hd (Int.ofNat_inj.1 e)
              clear hd
              go_wp2_with fail
              go_quiet (fail)
              go_wp2
              go_ret
              exact ⟨ret_bool (HR.out.trans Hno.out).symm, below_drewN hw3 _⟩
          · obtain rfl : j = (listOf (nb R k)).length := by omega
            go_wp2
            go_roundw
            case rel => exact ⟨k + 1, by omega, by go_num, (hb.trans (hb2.mono hb.size)).trans (hb3.mono (Nat.le_trans hb.size hb2.size)), fun v hv => by
              rcases Nat.lt_succ_iff_lt_or_eq.1 hv with h' | rfl
              · exact hall.out v h'
              · exact hall2.out⟩
            case measure => simp [intOf]; omega
      · obtain rfl : k = m := by omega
        go_wp2
        go_ret
        exact ⟨ret_bool (HR.out.trans (trans_ints_all hall.out)).symm, hwr⟩
end Go.Proofs.Ytcaoelihmkbedaa
