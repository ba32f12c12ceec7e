/- Walks of chapters 4 and 5: lists of different vertices, orders. -/
import Derived.Test.YtfodbgogeclifaaW3b
import Derived.Test.YtfodbgogeclifaaW7c
import Derived.Test.YtfodbgogeclifaaPure4
import Derived.Test.YtfodbgogeclifaaPure2b
import Derived.Test.YtfodbgogeclifaaCalm
namespace Go.Proofs.Ytfodbgogeclifaa
open Go.RowKit
theorem RI.take {w : World} {A : Option Addr} {n k : Nat} {xs : List Int} (h : RI w A n xs) (hk : k ≤ n) : RI w A k (xs.take k) := by
  refine ⟨by rw [List.length_take, h.1]; omega, fun h0 => ?_⟩
  obtain ⟨ad, e, hc⟩ := h.2 (by omega)
  refine ⟨ad, e, fun j hj => ?_⟩
  rw [hc j (by omega)]
  simp [List.getD, hj]
def idxZ (xs : List Int) (v : Int) : Int := if v ∈ xs then (xs.idxOf v : Int) else -1
theorem idxZ_at {xs : List Int} {v : Int} {k : Nat} (hk : k < xs.length) (h : xs.getD k 0 = v) (hno : ∀ j, j < k → xs.getD j 0 ≠ v) : idxZ xs v = k := by
  have h1 : xs[k] = v := by simpa [List.getD, List.getElem?_eq_getElem hk] using h
  have hm : v ∈ xs := h1 ▸ List.getElem_mem hk
  rw [idxZ, if_pos hm]
  have hi := List.idxOf_lt_length_of_mem hm
  have hg : xs[xs.idxOf v] = v := List.getElem_idxOf hi
  rcases Nat.lt_trichotomy (xs.idxOf v) k with hlt | he | hlt
  · exact absurd (by simp [List.getD, List.getElem?_eq_getElem hi, hg]) (hno _ hlt)
  · rw [he]
  · have := List.not_of_lt_findIdx (p := fun x => x == v) (xs := xs) (i := k) hlt
    simp [h1] at this
theorem idxZ_none {xs : List Int} {v : Int} (h : ∀ j, j < xs.length → xs.getD j 0 ≠ v) : idxZ xs v = -1 := by
  rw [idxZ, if_neg]
  intro hm
  obtain ⟨j, hj, e⟩ := List.mem_iff_getElem.1 hm
  exact h j hj (by simp [List.getD, List.getElem?_eq_getElem hj, e])
theorem idxZ_nonneg (xs : List Int) (v : Int) : decide (0 ≤ idxZ xs v) = decide (v ∈ xs) := by
  rw [idxZ, decide_eq_decide]
  split
  · rename_i h; exact ⟨fun _ => h, fun _ => by omega⟩
  · rename_i h; exact ⟨fun h' => by omega, fun h' => absurd h' h⟩
set_option maxHeartbeats 1000000 in
theorem slIndex_any (A : Option Addr) (n c : Nat) (v : Int) (xs : List Int) (w : World) (hA : RI w A n xs) (hn : n ≤ 9223372036854775807) :
    Calls Try.prog 78 #[.slice A n c, .int .i64 v] w fun e w' => e = .returned (.int .i64 (idxZ xs v)) ∧ w = w' := by
  have HX := Lib.hid hA.1
  go_enter Try.func78, Try.ntmps78
  go_wp2
  go_loop [8] (fun i => ∃ k : Nat, k ≤ n ∧ i = .int .i64 k ∧ Hid (∀ j, j < k → xs.getD j 0 ≠ v)) (fun i => n - (intOf i).toNat)
  case atStart => exact ⟨0, Nat.zero_le _, rfl, fun j h => absurd h (by omega)⟩
  case round =>
    obtain ⟨k, hk, rfl, hno⟩ := hrel
    by_cases hlt : k < n
    · obtain ⟨a, rfl, _, hca⟩ := hA.at_ hlt
      by_cases e : xs.getD k 0 = v
      · have HR := Lib.hid (idxZ_at (by rw [HX.out]; exact hlt) e hno.out)
        have hd : (v == xs[k]?.getD 0) = true := by rw [beq_iff_eq]; exact e.symm
        clear e
        go_wp2
        go_ret
        exact ⟨ret_int HR.out.symm, rfl⟩
      · have hd : (v == xs[k]?.getD 0) = false := by rw [beq_eq_false_iff_ne]; exact fun h => e h.symm
        have He := Lib.hid e
        clear e
        go_wp2
        go_round
        case rel => exact ⟨k + 1, by omega, by go_num, fun j hj => by
          rcases Nat.lt_succ_iff_lt_or_eq.1 hj with h' | rfl
          · exact hno.out j h'
          · exact He.out⟩
        case measure => simp [intOf]; omega
    · obtain rfl : k = n := by omega
      have HR := Lib.hid (idxZ_none (xs := xs) (v := v) (by rw [HX.out]; exact hno.out))
      go_wp2
      go_ret
      exact ⟨ret_int HR.out.symm, rfl⟩
theorem slContains_any (A : Option Addr) (n c : Nat) (v : Int) (xs : List Int) (w : World) (hA : RI w A n xs) (hn : n ≤ 9223372036854775807) :
    Calls Try.prog 108 #[.slice A n c, .int .i64 v] w fun e w' => e = .returned (.bool (decide (v ∈ xs))) ∧ w = w' := by
  have HZ := Lib.hid (idxZ_nonneg xs v)
  go_enter Try.func108, Try.ntmps108
  go_wp2_with fail
  refine (slIndex_any A n c v xs _ hA hn).mono ?_
  rintro e w' ⟨rfl, rfl⟩
  go_wp2
  go_ret
  exact ⟨ret_bool HZ.out, rfl⟩
theorem slContains_is {A : Option Addr} {n c : Nat} {v : Int} {xs : List Int} {w : World} {b : Bool} (hA : RI w A n xs) (hn : n ≤ 9223372036854775807) (h : decide (v ∈ xs) = b) :
    Calls Try.prog 108 #[.slice A n c, .int .i64 v] w fun e w' => e = .returned (.bool b) ∧ w = w' := by
  subst h; exact slContains_any A n c v xs w hA hn
set_option maxRecDepth 100000 in
set_option maxHeartbeats 2000000 in
theorem areVertices_any (N : Int) (A B : Option Addr) (n c m d : Nat) (X l : List Int) (w : World) (hX : RI w A n X) (hL : RI w B m l) (hn : n ≤ 9223372036854775807) (hm : m ≤ 9223372036854775807) (hmd : m ≤ d) :
    Calls Try.prog 99 #[.agg #[.int .i64 N, .slice A n c], .slice B m d] w fun e w' => e = .returned (.bool (isVerts N X l)) ∧ Below w.heap.size w w' := by
  have HL := Lib.hid hL.1
  rcases isGraph_cases N X with hg | ⟨k, Q, rfl, rfl, h⟩
  · have Hg := Lib.hid hg
    have HR := Lib.hid (isVerts_no (l := l) hg)
    clear hg
    have hL1 := hL.alloc (.cells #[.int .i64 N, .slice A n c] 45)
    have hy := (Blk.new w 45 #[.int .i64 N, .slice A n c]).two
    go_enter Try.func99, Try.ntmps99
    go_wp2_with fail
    go_loop [9] (fun i => ∃ k : Nat, k ≤ m ∧ i = .int .i64 k) (fun i => m - (intOf i).toNat)
    case atStart => exact ⟨0, Nat.zero_le _, rfl⟩
    case round =>
      obtain ⟨k, hk, rfl⟩ := hrel
      by_cases hlt : k < m
      · have hkd : k ≤ d := by omega
        obtain ⟨b, rfl, _, hcb⟩ := hL1.at_ hlt
        obtain ⟨z, hz⟩ : ∃ z, z = l.getD k 0 := ⟨_, rfl⟩
        rw [← hz] at hcb
        clear hz
        go_wp2_with fail
        refine (within_any z 0 _ _).mono ?_
        rintro e w1 ⟨rfl, rfl⟩
        rcases Bool.eq_false_or_eq_true (decide (0 ≤ z) && decide (z ≤ wrap64 (N - 1))) with e1 | e1
        · rw [e1]
          clear e1
          go_wp2_with fail
          refine (slContains_any (some b) k d z (l.take k) _ (hL1.take hk) (by omega)).mono ?_
          rintro e w1 ⟨rfl, rfl⟩
          rcases Bool.eq_false_or_eq_true (decide (z ∈ l.take k)) with e1 | e1
          · rw [e1]
            clear e1
            go_wp2
            go_ret
            exact ⟨ret_bool HR.out.symm, by go_grown⟩
          · rw [e1]
            clear e1
            go_wp2
            go_round
            case rel => exact ⟨k + 1, by omega, by go_num⟩
            case measure => simp [intOf]; omega
        · rw [e1]
          clear e1
          go_wp2
          go_ret
          exact ⟨ret_bool HR.out.symm, by go_grown⟩
      · obtain rfl : k = m := by omega
        go_wp2_with fail
        refine (implIsGraph_is (hX.up (by go_grown)) hn Hg.out).mono ?_
        rintro e w1 ⟨rfl, hb1⟩
        have hU1 : Up w w1 := Up.then_ (by go_grown) hb1
        go_wp2
        go_ret
        exact ⟨ret_bool HR.out.symm, hU1⟩
  · obtain rfl : n = k := by rw [← hX.1, ints_len, h.len]
    have hn7 := h.le
    have hn1 := h.pos
    have HR := Lib.hid (isVerts_ok (l := l) h)
    have hL1 := hL.alloc (.cells #[.int .i64 n, .slice A n c] 45)
    have hy := (Blk.new w 45 #[.int .i64 n, .slice A n c]).two
    go_enter Try.func99, Try.ntmps99
    go_wp2_with fail
    go_loop [9] (fun i => ∃ k : Nat, k ≤ m ∧ i = .int .i64 k ∧ Hid (vertsP n (l.take k))) (fun i => m - (intOf i).toNat)
    case atStart => exact ⟨0, Nat.zero_le _, rfl, vertsP_nil n⟩
    case round =>
      obtain ⟨k, hk, rfl, hv⟩ := hrel
      by_cases hlt : k < m
      · have hkd : k ≤ d := by omega
        obtain ⟨b, rfl, _, hcb⟩ := hL1.at_ hlt
        have HS := Lib.hid (take_snocI (l := l) (k := k) (by rw [HL.out]; exact hlt))
        have HO := Lib.hid (vertsP_out (n := n) (l := l) (k := k) (by rw [HL.out]; exact hlt))
        obtain ⟨z, hz⟩ : ∃ z, z = l.getD k 0 := ⟨_, rfl⟩
        rw [← hz] at hcb HS HO
        clear hz
        by_cases e1 : 0 ≤ z ∧ z ≤ (n : Int) - 1
        · have HZ : Hid (0 ≤ z ∧ z < (n : Int)) := (show 0 ≤ z ∧ z < (n : Int) by omega)
          go_wp2_with fail
          refine (within_yes z 0 _ _ e1).mono ?_
          clear e1
          rintro e w1 ⟨rfl, rfl⟩
          rcases Bool.eq_false_or_eq_true (decide (z ∈ l.take k)) with e1 | e1
          · have Hno := Lib.hid (HO.out fun h => h.2 (by simpa using e1))
            go_wp2_with fail
            refine (slContains_is (hL1.take hk) (by omega) e1).mono ?_
            clear e1
            rintro e w1 ⟨rfl, rfl⟩
            go_wp2
            go_ret
            exact ⟨ret_bool (HR.out.trans (decide_eq_false Hno.out)).symm, by go_grown⟩
          · have Hok := Lib.hid (show vertsP n (l.take (k + 1)) by rw [HS.out, vertsP_snoc]; exact ⟨hv.out, HZ.out, by simpa using e1⟩)
            go_wp2_with fail
            refine (slContains_is (hL1.take hk) (by omega) e1).mono ?_
            clear e1
            rintro e w1 ⟨rfl, rfl⟩
            go_wp2
            go_round
            case rel => exact ⟨k + 1, by omega, by go_num, Hok.out⟩
            case measure => simp [intOf]; omega
        · have Hno := Lib.hid (HO.out fun h => e1 (by omega))
          go_wp2_with fail
          refine (within_no z 0 _ _ e1).mono ?_
          clear e1
          rintro e w1 ⟨rfl, rfl⟩
          go_wp2
          go_ret
          exact ⟨ret_bool (HR.out.trans (decide_eq_false Hno.out)).symm, by go_grown⟩
      · obtain rfl : k = m := by omega
        have Hl := Lib.hid (List.take_of_length_le (Nat.le_of_eq HL.out))
        go_wp2_with fail
        refine (implIsGraph_is (hX.up (by go_grown)) hn h.is).mono ?_
        rintro e w1 ⟨rfl, hb1⟩
        have hU1 : Up w w1 := Up.then_ (by go_grown) hb1
        go_wp2
        go_ret
        exact ⟨ret_bool (HR.out.trans (decide_eq_true (by have := hv.out; rw [Hl.out] at this; exact this))).symm, hU1⟩
theorem areVertices_is {N : Int} {A B : Option Addr} {n c m d : Nat} {X l : List Int} {w : World} {b : Bool} (hX : RI w A n X) (hL : RI w B m l) (hn : n ≤ 9223372036854775807) (hm : m ≤ 9223372036854775807) (hmd : m ≤ d) (h : isVerts N X l = b) :
    Calls Try.prog 99 #[.agg #[.int .i64 N, .slice A n c], .slice B m d] w fun e w' => e = .returned (.bool b) ∧ Below w.heap.size w w' := by
  subst h; exact areVertices_any N A B n c m d X l w hX hL hn hm hmd
theorem implIsOrder_any (N : Int) (A B : Option Addr) (n c m d : Nat) (X l : List Int) (w : World) (hX : RI w A n X) (hL : RI w B m l) (hn : n ≤ 9223372036854775807) (hm : m ≤ 9223372036854775807) (hmd : m ≤ d) :
    Calls Try.prog 74 #[.agg #[.int .i64 N, .slice A n c], .slice B m d] w fun e w' => e = .returned (.bool (isOrder N X l)) ∧ Below w.heap.size w w' := by
  have HL := Lib.hid hL.1
  rcases Bool.eq_false_or_eq_true (isVerts N X l) with e1 | e1
  · have HR := Lib.hid ((isOrder_yes e1).trans (show decide ((l.length : Int) = N) = ((m : Int) == N) by rw [HL.out]; rfl))
    have H1 := Lib.hid e1
    clear e1
    go_enter Try.func74, Try.ntmps74
    go_wp2_with fail
    refine (areVertices_is (hX.up (by go_grown)) (hL.up (by go_grown)) hn hm hmd H1.out).mono ?_
    rintro e w1 ⟨rfl, hb1⟩
    have hU1 : Up w w1 := Up.then_ (by go_grown) hb1
    have hblk := (Blk.new w 45 #[.int .i64 N, .slice A n c]).up hb1
    have hyb := hblk.two
    go_wp2
    go_ret
    exact ⟨ret_bool HR.out.symm, hU1⟩
  · have HR := Lib.hid (isOrder_no e1)
    have H1 := Lib.hid e1
    clear e1
    go_enter Try.func74, Try.ntmps74
    go_wp2_with fail
    refine (areVertices_is (hX.up (by go_grown)) (hL.up (by go_grown)) hn hm hmd H1.out).mono ?_
    rintro e w1 ⟨rfl, hb1⟩
    have hU1 : Up w w1 := Up.then_ (by go_grown) hb1
    go_wp2
    go_ret
    exact ⟨ret_bool HR.out.symm, hU1⟩
theorem implIsOrder_is {N : Int} {A B : Option Addr} {n c m d : Nat} {X l : List Int} {w : World} {b : Bool} (hX : RI w A n X) (hL : RI w B m l) (hn : n ≤ 9223372036854775807) (hm : m ≤ 9223372036854775807) (hmd : m ≤ d) (h : isOrder N X l = b) :
    Calls Try.prog 74 #[.agg #[.int .i64 N, .slice A n c], .slice B m d] w fun e w' => e = .returned (.bool b) ∧ Below w.heap.size w w' := by
  subst h; exact implIsOrder_any N A B n c m d X l w hX hL hn hm hmd
def setOfRes (l : List Int) : Int := if vertsP 7 l then (setZ l : Int) else 0
set_option maxRecDepth 100000 in
set_option maxHeartbeats 2000000 in
theorem setOf_any (B : Option Addr) (m d : Nat) (l : List Int) (w : World) (hL : RI w B m l) (hm : m ≤ 9223372036854775807) :
    Calls Try.prog 123 #[.slice B m d] w fun e w' => e = .returned (.tuple #[.int .i64 (setOfRes l), .bool (decide (vertsP 7 l))]) ∧ w = w' := by
  have HL := Lib.hid hL.1
  go_enter Try.func123, Try.ntmps123
  go_wp2_with fail
  go_loop [4, 5] (fun s i => ∃ k : Nat, k ≤ m ∧ i = .int .i64 k ∧ s = .int .i64 (setZ (l.take k)) ∧ Hid (vertsP 7 (l.take k))) (fun _ i => m - (intOf i).toNat)
  case atStart => exact ⟨0, Nat.zero_le _, rfl, rfl, vertsP_nil 7⟩
  case round =>
    obtain ⟨k, hk, rfl, rfl, hv⟩ := hrel
    have hs7 := setZ_lt (n := 7) hv.out.1
    by_cases hlt : k < m
    · obtain ⟨b, rfl, _, hcb⟩ := hL.at_ hlt
      have HS := Lib.hid (take_snocI (l := l) (k := k) (by rw [HL.out]; exact hlt))
      have HO := Lib.hid (vertsP_out (n := 7) (l := l) (k := k) (by rw [HL.out]; exact hlt))
      by_cases hin : 0 ≤ l.getD k 0 ∧ l.getD k 0 ≤ 6
      · obtain ⟨x, hx⟩ : ∃ x : Nat, l.getD k 0 = x := ⟨(l.getD k 0).toNat, by omega⟩
        rw [hx] at hcb hin HS HO
        have hx6 : x ≤ 6 := by omega
        have hbit := bit_one (setZ (l.take k)) x (by omega)
        rw [setZ_bit hv.out.1] at hbit
        clear hx
        by_cases e1 : (x : Int) ∈ l.take k
        · have Hno := Lib.hid (HO.out fun h => h.2 e1)
          rw [decide_eq_true e1] at hbit
          clear e1
          go_wp2_with (go_at_call 57; refine (l1In_eq hin).mono ?_; rintro e w' ⟨rfl, rfl⟩)
          go_ret2
          refine ⟨?_, rfl⟩
          rw [setOfRes, if_neg Hno.out, decide_eq_false Hno.out]; rfl
        · have Hok := Lib.hid (show vertsP 7 (l.take (k + 1)) by rw [HS.out, vertsP_snoc]; exact ⟨hv.out, by omega, e1⟩)
          have Hsum := Lib.hid (show ((setZ (l.take k) : Nat) : Int) + ((p2 x : Nat) : Int) = ((setZ (l.take (k + 1)) : Nat) : Int) by
            rw [HS.out, setZ_snoc]
            have h1 := add_bit (a := setZ (l.take k)) (x := x) (by rw [setZ_bit hv.out.1]; exact decide_eq_false e1)
            have h2 : ((x : Int)).toNat = x := by omega
            rw [h2, ← h1]
            rfl)
          have hsh := shl_p2 (k := x) (by omega)
          have hp := p2_le (k := x) (by omega)
          rw [decide_eq_false e1] at hbit
          clear e1
          go_wp2_with (go_at_call 57; refine (l1In_eq hin).mono ?_; rintro e w' ⟨rfl, rfl⟩)
          go_round
          case rel => exact ⟨k + 1, by omega, by go_num, by rw [Hsum.out], Hok.out⟩
          case measure => simp [intOf]; omega
      · have Hno := Lib.hid (HO.out fun h => hin (by omega))
        obtain ⟨z, hz⟩ : ∃ z, z = l.getD k 0 := ⟨_, rfl⟩
        rw [← hz] at hcb hin
        clear hz
        go_wp2_with (go_at_call 57; refine (l1In_no _ _ _ _ hin).mono ?_; rintro e w' ⟨rfl, rfl⟩)
        go_ret2
        refine ⟨?_, rfl⟩
        rw [setOfRes, if_neg Hno.out, decide_eq_false Hno.out]; rfl
    · obtain rfl : k = m := by omega
      have Hl := Lib.hid (List.take_of_length_le (Nat.le_of_eq HL.out))
      go_wp2
      go_ret2
      refine ⟨?_, rfl⟩
      have := hv.out
      rw [Hl.out] at this
      rw [setOfRes, if_pos this, decide_eq_true this, Hl.out]; rfl
set_option maxHeartbeats 1000000 in
theorem l4Distinct_any (N : Int) (A B : Option Addr) (n c m d : Nat) (X l : List Int) (w : World) (hX : RI w A n X) (hL : RI w B m l) (hn : n ≤ 9223372036854775807) (hm : m ≤ 9223372036854775807) :
    Calls Try.prog 98 #[.agg #[.int .i64 N, .slice A n c], .slice B m d] w fun e w' => e = .returned (.bool (isVerts N X l)) ∧ Below w.heap.size w w' := by
  have HL := Lib.hid hL.1
  have hb0 := Blk.new w 45 #[.int .i64 N, .slice A n c]
  have hy0 := hb0.two
  rcases isGraph_cases N X with hg | ⟨k, Q, rfl, rfl, h⟩
  · have Hg := Lib.hid hg
    have HR := Lib.hid (isVerts_no (l := l) hg)
    clear hg
    go_enter Try.func98, Try.ntmps98
    go_wp2_with fail
    refine (setOf_any B m d l _ (hL.up (by go_grown)) hm).mono ?_
    rintro e w1 ⟨rfl, rfl⟩
    go_wp2_with fail
    refine (specIsGraph_is (hX.up (by go_grown)) hn Hg.out).mono ?_
    rintro e w2 ⟨rfl, hb2⟩
    have hU2 : Up w w2 := Up.then_ (by go_grown) hb2
    go_wp2
    go_ret
    exact ⟨ret_bool HR.out.symm, hU2⟩
  · obtain rfl : n = k := by rw [← hX.1, ints_len, h.len]
    have HR := Lib.hid (isVerts_ok (l := l) h)
    by_cases h7 : vertsP 7 l
    · have HS := Lib.hid (isSet_setZ h h7)
      have H1 := Lib.hid (show setOfRes l = (setZ l : Int) by rw [setOfRes, if_pos h7])
      have H2 := Lib.hid (decide_eq_true h7)
      clear h7
      go_enter Try.func98, Try.ntmps98
      go_wp2_with fail
      refine (setOf_any B m d l _ (hL.up (by go_grown)) hm).mono ?_
      rintro e w1 ⟨rfl, rfl⟩
      rw [H1.out, H2.out]
      go_wp2_with fail
      refine (specIsGraph_is (hX.up (by go_grown)) hn h.is).mono ?_
      rintro e w2 ⟨rfl, hb2⟩
      have hU2 : Up w w2 := Up.then_ (by go_grown) hb2
      replace hX := hX.up hU2
      replace hb0 := hb0.up hb2
      clear hy0
      have hy0 := hb0.two
      have hl0 := hb0.lt
      go_wp2_with fail
      refine (specIsSet_any n A n c (ints Q) (setZ l) _ hX hn).mono ?_
      rintro e w3 ⟨rfl, hb3⟩
      have hU3 : Up w2 w3 := Up.then_ (by go_grown) hb3
      replace hX := hX.up hU3
      have hw3 := Up.then_ hU2 hU3
      go_wp2
      go_ret
      exact ⟨ret_bool (HS.out.trans HR.out.symm), hw3⟩
    · have Hno := Lib.hid (show ¬ vertsP n l from fun e => h7 (e.mono h.le))
      have H1 := Lib.hid (show setOfRes l = 0 by rw [setOfRes, if_neg h7])
      have H2 := Lib.hid (decide_eq_false h7)
      clear h7
      go_enter Try.func98, Try.ntmps98
      go_wp2_with fail
      refine (setOf_any B m d l _ (hL.up (by go_grown)) hm).mono ?_
      rintro e w1 ⟨rfl, rfl⟩
      rw [H1.out, H2.out]
      go_wp2_with fail
      refine (specIsGraph_is (hX.up (by go_grown)) hn h.is).mono ?_
      rintro e w2 ⟨rfl, hb2⟩
      have hU2 : Up w w2 := Up.then_ (by go_grown) hb2
      go_wp2
      go_ret
      exact ⟨ret_bool (HR.out.trans (decide_eq_false Hno.out)).symm, hU2⟩
theorem l4Distinct_is {N : Int} {A B : Option Addr} {n c m d : Nat} {X l : List Int} {w : World} {b : Bool} (hX : RI w A n X) (hL : RI w B m l) (hn : n ≤ 9223372036854775807) (hm : m ≤ 9223372036854775807) (h : isVerts N X l = b) :
    Calls Try.prog 98 #[.agg #[.int .i64 N, .slice A n c], .slice B m d] w fun e w' => e = .returned (.bool b) ∧ Below w.heap.size w w' := by
  subst h; exact l4Distinct_any N A B n c m d X l w hX hL hn hm
theorem specIsOrder_any (N : Int) (A B : Option Addr) (n c m d : Nat) (X l : List Int) (w : World) (hX : RI w A n X) (hL : RI w B m l) (hn : n ≤ 9223372036854775807) (hm : m ≤ 9223372036854775807) :
    Calls Try.prog 72 #[.agg #[.int .i64 N, .slice A n c], .slice B m d] w fun e w' => e = .returned (.bool (isOrder N X l)) ∧ Below w.heap.size w w' := by
  have HL := Lib.hid hL.1
  rcases Bool.eq_false_or_eq_true (isVerts N X l) with e1 | e1
  · have HR := Lib.hid ((isOrder_yes e1).trans (show decide ((l.length : Int) = N) = ((m : Int) == N) by rw [HL.out]; rfl))
    have H1 := Lib.hid e1
    clear e1
    go_enter Try.func72, Try.ntmps72
    go_wp2_with fail
    refine (l4Distinct_is (hX.up (by go_grown)) (hL.up (by go_grown)) hn hm H1.out).mono ?_
    rintro e w1 ⟨rfl, hb1⟩
    have hU1 : Up w w1 := Up.then_ (by go_grown) hb1
    have hblk := (Blk.new w 45 #[.int .i64 N, .slice A n c]).up hb1
    have hyb := hblk.two
    go_wp2
    go_ret
    exact ⟨ret_bool HR.out.symm, hU1⟩
  · have HR := Lib.hid (isOrder_no e1)
    have H1 := Lib.hid e1
    clear e1
    go_enter Try.func72, Try.ntmps72
    go_wp2_with fail
    refine (l4Distinct_is (hX.up (by go_grown)) (hL.up (by go_grown)) hn hm H1.out).mono ?_
    rintro e w1 ⟨rfl, hb1⟩
    have hU1 : Up w w1 := Up.then_ (by go_grown) hb1
    go_wp2
    go_ret
    exact ⟨ret_bool HR.out.symm, hU1⟩
theorem specIsOrder_is {N : Int} {A B : Option Addr} {n c m d : Nat} {X l : List Int} {w : World} {b : Bool} (hX : RI w A n X) (hL : RI w B m l) (hn : n ≤ 9223372036854775807) (hm : m ≤ 9223372036854775807) (h : isOrder N X l = b) :
    Calls Try.prog 72 #[.agg #[.int .i64 N, .slice A n c], .slice B m d] w fun e w' => e = .returned (.bool b) ∧ Below w.heap.size w w' := by
  subst h; exact specIsOrder_any N A B n c m d X l w hX hL hn hm
end Go.Proofs.Ytfodbgogeclifaa
