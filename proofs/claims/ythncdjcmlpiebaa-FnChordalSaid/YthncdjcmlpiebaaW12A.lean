/- Walks of chapters 4 and 5: lists of different vertices, orders. The library's IndexFunc and ContainsFunc on numbers, whatever the predicate; Reverse. Walks of chapter 12: umbrella orders. Walks of chapter 12: the first umbrella order. Walks of chapter 12: the first umbrella order, the program's search. -/
import Derived.Test.YthncdjcmlpiebaaW3A
import Derived.Test.YthncdjcmlpiebaaW7A
import Derived.Test.YthncdjcmlpiebaaPurA
import Derived.Test.YthncdjcmlpiebaaBasA
import Derived.ArgAppend
import Derived.Laws.EntriesVeiled
namespace Go.Proofs.Ythncdjcmlpiebaa
open Go.RowKit
theorem RI.take {w : World} {A : Option Addr} {n k : Nat} {xs : List Int} (h : RI w A n xs) (hk : k ≤ n) : RI w A k (xs.take k) := by
  refine ⟨by rw [List.length_take, h.1]; omega, fun h0 => ?_⟩
  obtain ⟨ad, e, hc⟩ := h.2 (by omega)
  refine ⟨ad, e, fun j hj => ?_⟩
  rw [hc j (by omega)]
  simp [List.getD, hj]
def idxZ (xs : List Int) (v : Int) : Int := if v ∈ xs then (xs.idxOf v : Int) else -1
theorem idxZ_at {xs : List Int} {v : Int} {k : Nat} (hk : k < xs.length) (h : xs.getD k 0 = v) (hno : ∀ j, j < k → xs.getD j 0 ≠ v) : idxZ xs v = k := by
  have h1 : xs[k] = v := by simpa [List.getD, List.getElem?_eq_getElem hk] using h
  have hm : v ∈ xs := h1 ▸ List.getElem_mem hk
  rw [idxZ, if_pos hm]
  have hi := List.idxOf_lt_length_of_mem hm
  have hg : xs[xs.idxOf v] = v := List.getElem_idxOf hi
  rcases Nat.lt_trichotomy (xs.idxOf v) k with hlt | he | hlt
  · exact absurd (by simp [List.getD, List.getElem?_eq_getElem hi, hg]) (hno _ hlt)
  · rw [he]
  · have := List.not_of_lt_findIdx (p := fun x => x == v) (xs := xs) (i := k) hlt
    simp [h1] at this
theorem idxZ_none {xs : List Int} {v : Int} (h : ∀ j, j < xs.length → xs.getD j 0 ≠ v) : idxZ xs v = -1 := by
  rw [idxZ, if_neg]
  intro hm
  obtain ⟨j, hj, e⟩ := List.mem_iff_getElem.1 hm
  exact h j hj (by simp [List.getD, List.getElem?_eq_getElem hj, e])
theorem idxZ_nonneg (xs : List Int) (v : Int) : decide (0 ≤ idxZ xs v) = decide (v ∈ xs) := by
  rw [idxZ, decide_eq_decide]
  split
  · rename_i h; exact ⟨fun _ => h, fun _ => by omega⟩
  · rename_i h; exact ⟨fun h' => by omega, fun h' => absurd h' h⟩
set_option maxHeartbeats 1000000 in
theorem slIndex_any (A : Option Addr) (n c : Nat) (v : Int) (xs : List Int) (w : World) (hA : RI w A n xs) (hn : n ≤ 9223372036854775807) :
    Calls Try.prog 86 #[.slice A n c, .int .i64 v] w fun e w' => e = .returned (.int .i64 (idxZ xs v)) ∧ w = w' := by
  have HX := Lib.hid hA.1
  go_enter Try.func86, Try.ntmps86
  go_wp2
  go_loop [8] (fun i => ∃ k : Nat, k ≤ n ∧ i = .int .i64 k ∧ Hid (∀ j, j < k → xs.getD j 0 ≠ v)) (fun i => n - (intOf i).toNat)
  case atStart => exact ⟨0, Nat.zero_le _, rfl, fun j h => absurd h (by omega)⟩
  case round =>
    obtain ⟨k, hk, rfl, hno⟩ := hrel
    by_cases hlt : k < n
    · obtain ⟨a, rfl, _, hca⟩ := hA.at_ hlt
      by_cases e : xs.getD k 0 = v
      · have HR := Lib.hid (idxZ_at (by rw [HX.out]; exact hlt) e hno.out)
        have hd : (v == xs[k]?.getD 0) = true := by rw [beq_iff_eq]; exact e.symm
        clear e
        go_wp2
        go_ret
        exact ⟨ret_int HR.out.symm, rfl⟩
      · have hd : (v == xs[k]?.getD 0) = false := by rw [beq_eq_false_iff_ne]; exact fun h => e h.symm
        have He := Lib.hid e
        clear e
        go_wp2
        go_round
        case rel => exact ⟨k + 1, by omega, by go_num, fun j hj => by
          rcases Nat.lt_succ_iff_lt_or_eq.1 hj with h' | rfl
          · exact hno.out j h'
          · exact He.out⟩
        case measure => simp [intOf]; omega
    · obtain rfl : k = n := by omega
      have HR := Lib.hid (idxZ_none (xs := xs) (v := v) (by rw [HX.out]; exact hno.out))
      go_wp2
      go_ret
      exact ⟨ret_int HR.out.symm, rfl⟩
theorem slContains_any (A : Option Addr) (n c : Nat) (v : Int) (xs : List Int) (w : World) (hA : RI w A n xs) (hn : n ≤ 9223372036854775807) :
    Calls Try.prog 111 #[.slice A n c, .int .i64 v] w fun e w' => e = .returned (.bool (decide (v ∈ xs))) ∧ w = w' := by
  have HZ := Lib.hid (idxZ_nonneg xs v)
  go_enter Try.func111, Try.ntmps111
  go_wp2_with fail
  refine (slIndex_any A n c v xs _ hA hn).mono ?_
  rintro e w' ⟨rfl, rfl⟩
  go_wp2
  go_ret
  exact ⟨ret_bool HZ.out, rfl⟩
theorem slContains_is {A : Option Addr} {n c : Nat} {v : Int} {xs : List Int} {w : World} {b : Bool} (hA : RI w A n xs) (hn : n ≤ 9223372036854775807) (h : decide (v ∈ xs) = b) :
    Calls Try.prog 111 #[.slice A n c, .int .i64 v] w fun e w' => e = .returned (.bool b) ∧ w = w' := by
  subst h; exact slContains_any A n c v xs w hA hn
set_option maxRecDepth 100000 in
set_option maxHeartbeats 2000000 in
theorem areVertices_any (N : Int) (A B : Option Addr) (n c m d : Nat) (X l : List Int) (w : World) (hX : RI w A n X) (hL : RI w B m l) (hn : n ≤ 9223372036854775807) (hm : m ≤ 9223372036854775807) (hmd : m ≤ d) :
    Calls Try.prog 96 #[.agg #[.int .i64 N, .slice A n c], .slice B m d] w fun e w' => e = .returned (.bool (isVerts N X l)) ∧ Below w.heap.size w w' := by
  have HL := Lib.hid hL.1
  rcases isGraph_cases N X with hg | ⟨k, Q, rfl, rfl, h⟩
  · have Hg := Lib.hid hg
    have HR := Lib.hid (isVerts_no (l := l) hg)
    clear hg
    have hL1 := hL.alloc (.cells #[.int .i64 N, .slice A n c] 26)
    have hy := (Blk.new w 26 #[.int .i64 N, .slice A n c]).two
    go_enter Try.func96, Try.ntmps96
    go_wp2_with fail
    go_loop [9] (fun i => ∃ k : Nat, k ≤ m ∧ i = .int .i64 k) (fun i => m - (intOf i).toNat)
    case atStart => exact ⟨0, Nat.zero_le _, rfl⟩
    case round =>
      obtain ⟨k, hk, rfl⟩ := hrel
      by_cases hlt : k < m
      · have hkd : k ≤ d := by omega
        obtain ⟨b, rfl, _, hcb⟩ := hL1.at_ hlt
        obtain ⟨z, hz⟩ : ∃ z, z = l.getD k 0 := ⟨_, rfl⟩
        rw [← hz] at hcb
        clear hz
        go_wp2_with fail
        refine (within_any z 0 _ _).mono ?_
        rintro e w1 ⟨rfl, rfl⟩
        rcases Bool.eq_false_or_eq_true (decide (0 ≤ z) && decide (z ≤ wrap64 (N - 1))) with e1 | e1
        · rw [e1]
          clear e1
          go_wp2_with fail
          refine (slContains_any (some b) k d z (l.take k) _ (hL1.take hk) (by omega)).mono ?_
          rintro e w1 ⟨rfl, rfl⟩
          rcases Bool.eq_false_or_eq_true (decide (z ∈ l.take k)) with e1 | e1
          · rw [e1]
            clear e1
            go_wp2
            go_ret
            exact ⟨ret_bool HR.out.symm, by go_grown⟩
          · rw [e1]
            clear e1
            go_wp2
            go_round
            case rel => exact ⟨k + 1, by omega, by go_num⟩
            case measure => simp [intOf]; omega
        · rw [e1]
          clear e1
          go_wp2
          go_ret
          exact ⟨ret_bool HR.out.symm, by go_grown⟩
      · obtain rfl : k = m := by omega
        go_wp2_with fail
        refine (implIsGraph_is (hX.up (by go_grown)) hn Hg.out).mono ?_
        rintro e w1 ⟨rfl, hb1⟩
        have hU1 : Up w w1 := Up.then_ (by go_grown) hb1
        go_wp2
        go_ret
        exact ⟨ret_bool HR.out.symm, hU1⟩
  · obtain rfl : n = k := by rw [← hX.1, ints_len, h.len]
    have hn7 := h.le
    have hn1 := h.pos
    have HR := Lib.hid (isVerts_ok (l := l) h)
    have hL1 := hL.alloc (.cells #[.int .i64 n, .slice A n c] 26)
    have hy := (Blk.new w 26 #[.int .i64 n, .slice A n c]).two
    go_enter Try.func96, Try.ntmps96
    go_wp2_with fail
    go_loop [9] (fun i => ∃ k : Nat, k ≤ m ∧ i = .int .i64 k ∧ Hid (vertsP n (l.take k))) (fun i => m - (intOf i).toNat)
    case atStart => exact ⟨0, Nat.zero_le _, rfl, vertsP_nil n⟩
    case round =>
      obtain ⟨k, hk, rfl, hv⟩ := hrel
      by_cases hlt : k < m
      · have hkd : k ≤ d := by omega
        obtain ⟨b, rfl, _, hcb⟩ := hL1.at_ hlt
        have HS := Lib.hid (take_snocI (l := l) (k := k) (by rw [HL.out]; exact hlt))
        have HO := Lib.hid (vertsP_out (n := n) (l := l) (k := k) (by rw [HL.out]; exact hlt))
        obtain ⟨z, hz⟩ : ∃ z, z = l.getD k 0 := ⟨_, rfl⟩
        rw [← hz] at hcb HS HO
        clear hz
        by_cases e1 : 0 ≤ z ∧ z ≤ (n : Int) - 1
        · have HZ : Hid (0 ≤ z ∧ z < (n : Int)) := (show 0 ≤ z ∧ z < (n : Int) by omega)
          go_wp2_with fail
          refine (within_yes z 0 _ _ e1).mono ?_
          clear e1
          rintro e w1 ⟨rfl, rfl⟩
          rcases Bool.eq_false_or_eq_true (decide (z ∈ l.take k)) with e1 | e1
          · have Hno := Lib.hid (HO.out fun h => h.2 (by simpa using e1))
            go_wp2_with fail
            refine (slContains_is (hL1.take hk) (by omega) e1).mono ?_
            clear e1
            rintro e w1 ⟨rfl, rfl⟩
            go_wp2
            go_ret
            exact ⟨ret_bool (HR.out.trans (decide_eq_false Hno.out)).symm, by go_grown⟩
          · have Hok := Lib.hid (show vertsP n (l.take (k + 1)) by rw [HS.out, vertsP_snoc]; exact ⟨hv.out, HZ.out, by simpa using e1⟩)
            go_wp2_with fail
            refine (slContains_is (hL1.take hk) (by omega) e1).mono ?_
            clear e1
            rintro e w1 ⟨rfl, rfl⟩
            go_wp2
            go_round
            case rel => exact ⟨k + 1, by omega, by go_num, Hok.out⟩
            case measure => simp [intOf]; omega
        · have Hno := Lib.hid (HO.out fun h => e1 (by omega))
          go_wp2_with fail
          refine (within_no z 0 _ _ e1).mono ?_
          clear e1
          rintro e w1 ⟨rfl, rfl⟩
          go_wp2
          go_ret
          exact ⟨ret_bool (HR.out.trans (decide_eq_false Hno.out)).symm, by go_grown⟩
      · obtain rfl : k = m := by omega
        have Hl := Lib.hid (List.take_of_length_le (Nat.le_of_eq HL.out))
        go_wp2_with fail
        refine (implIsGraph_is (hX.up (by go_grown)) hn h.is).mono ?_
        rintro e w1 ⟨rfl, hb1⟩
        have hU1 : Up w w1 := Up.then_ (by go_grown) hb1
        go_wp2
        go_ret
        exact ⟨ret_bool (HR.out.trans (decide_eq_true (by have := hv.out; rw [Hl.out] at this; exact this))).symm, hU1⟩
theorem areVertices_is {N : Int} {A B : Option Addr} {n c m d : Nat} {X l : List Int} {w : World} {b : Bool} (hX : RI w A n X) (hL : RI w B m l) (hn : n ≤ 9223372036854775807) (hm : m ≤ 9223372036854775807) (hmd : m ≤ d) (h : isVerts N X l = b) :
    Calls Try.prog 96 #[.agg #[.int .i64 N, .slice A n c], .slice B m d] w fun e w' => e = .returned (.bool b) ∧ Below w.heap.size w w' := by
  subst h; exact areVertices_any N A B n c m d X l w hX hL hn hm hmd
theorem implIsOrder_any (N : Int) (A B : Option Addr) (n c m d : Nat) (X l : List Int) (w : World) (hX : RI w A n X) (hL : RI w B m l) (hn : n ≤ 9223372036854775807) (hm : m ≤ 9223372036854775807) (hmd : m ≤ d) :
    Calls Try.prog 64 #[.agg #[.int .i64 N, .slice A n c], .slice B m d] w fun e w' => e = .returned (.bool (isOrder N X l)) ∧ Below w.heap.size w w' := by
  have HL := Lib.hid hL.1
  rcases Bool.eq_false_or_eq_true (isVerts N X l) with e1 | e1
  · have HR := Lib.hid ((isOrder_yes e1).trans (show decide ((l.length : Int) = N) = ((m : Int) == N) by rw [HL.out]; rfl))
    have H1 := Lib.hid e1
    clear e1
    go_enter Try.func64, Try.ntmps64
    go_wp2_with fail
    refine (areVertices_is (hX.up (by go_grown)) (hL.up (by go_grown)) hn hm hmd H1.out).mono ?_
    rintro e w1 ⟨rfl, hb1⟩
    have hU1 : Up w w1 := Up.then_ (by go_grown) hb1
    have hblk := (Blk.new w 26 #[.int .i64 N, .slice A n c]).up hb1
    have hyb := hblk.two
    go_wp2
    go_ret
    exact ⟨ret_bool HR.out.symm, hU1⟩
  · have HR := Lib.hid (isOrder_no e1)
    have H1 := Lib.hid e1
    clear e1
    go_enter Try.func64, Try.ntmps64
    go_wp2_with fail
    refine (areVertices_is (hX.up (by go_grown)) (hL.up (by go_grown)) hn hm hmd H1.out).mono ?_
    rintro e w1 ⟨rfl, hb1⟩
    have hU1 : Up w w1 := Up.then_ (by go_grown) hb1
    go_wp2
    go_ret
    exact ⟨ret_bool HR.out.symm, hU1⟩
theorem implIsOrder_is {N : Int} {A B : Option Addr} {n c m d : Nat} {X l : List Int} {w : World} {b : Bool} (hX : RI w A n X) (hL : RI w B m l) (hn : n ≤ 9223372036854775807) (hm : m ≤ 9223372036854775807) (hmd : m ≤ d) (h : isOrder N X l = b) :
    Calls Try.prog 64 #[.agg #[.int .i64 N, .slice A n c], .slice B m d] w fun e w' => e = .returned (.bool b) ∧ Below w.heap.size w w' := by
  subst h; exact implIsOrder_any N A B n c m d X l w hX hL hn hm hmd
def setOfRes (l : List Int) : Int := if vertsP 7 l then (setZ l : Int) else 0
set_option maxRecDepth 100000 in
set_option maxHeartbeats 2000000 in
theorem setOf_any (B : Option Addr) (m d : Nat) (l : List Int) (w : World) (hL : RI w B m l) (hm : m ≤ 9223372036854775807) :
    Calls Try.prog 112 #[.slice B m d] w fun e w' => e = .returned (.tuple #[.int .i64 (setOfRes l), .bool (decide (vertsP 7 l))]) ∧ w = w' := by
  have HL := Lib.hid hL.1
  go_enter Try.func112, Try.ntmps112
  go_wp2_with fail
  go_loop [4, 5] (fun s i => ∃ k : Nat, k ≤ m ∧ i = .int .i64 k ∧ s = .int .i64 (setZ (l.take k)) ∧ Hid (vertsP 7 (l.take k))) (fun _ i => m - (intOf i).toNat)
  case atStart => exact ⟨0, Nat.zero_le _, rfl, rfl, vertsP_nil 7⟩
  case round =>
    obtain ⟨k, hk, rfl, rfl, hv⟩ := hrel
    have hs7 := setZ_lt (n := 7) hv.out.1
    by_cases hlt : k < m
    · obtain ⟨b, rfl, _, hcb⟩ := hL.at_ hlt
      have HS := Lib.hid (take_snocI (l := l) (k := k) (by rw [HL.out]; exact hlt))
      have HO := Lib.hid (vertsP_out (n := 7) (l := l) (k := k) (by rw [HL.out]; exact hlt))
      by_cases hin : 0 ≤ l.getD k 0 ∧ l.getD k 0 ≤ 6
      · obtain ⟨x, hx⟩ : ∃ x : Nat, l.getD k 0 = x := ⟨(l.getD k 0).toNat, by omega⟩
        rw [hx] at hcb hin HS HO
        have hx6 : x ≤ 6 := by omega
        have hbit := bit_one (setZ (l.take k)) x (by omega)
        rw [setZ_bit hv.out.1] at hbit
        clear hx
        by_cases e1 : (x : Int) ∈ l.take k
        · have Hno := Lib.hid (HO.out fun h => h.2 e1)
          rw [decide_eq_true e1] at hbit
          clear e1
          go_wp2_with (go_at_call 70; refine (l1In_eq hin).mono ?_; rintro e w' ⟨rfl, rfl⟩)
          go_ret2
          refine ⟨?_, rfl⟩
          rw [setOfRes, if_neg Hno.out, decide_eq_false Hno.out]; rfl
        · have Hok := Lib.hid (show vertsP 7 (l.take (k + 1)) by rw [HS.out, vertsP_snoc]; exact ⟨hv.out, by omega, e1⟩)
          have Hsum := Lib.hid (show ((setZ (l.take k) : Nat) : Int) + ((p2 x : Nat) : Int) = ((setZ (l.take (k + 1)) : Nat) : Int) by
            rw [HS.out, setZ_snoc]
            have h1 := add_bit (a := setZ (l.take k)) (x := x) (by rw [setZ_bit hv.out.1]; exact decide_eq_false e1)
            have h2 : ((x : Int)).toNat = x := by omega
            rw [h2, ← h1]
            rfl)
          have hsh := shl_p2 (k := x) (by omega)
          have hp := p2_le (k := x) (by omega)
          rw [decide_eq_false e1] at hbit
          clear e1
          go_wp2_with (go_at_call 70; refine (l1In_eq hin).mono ?_; rintro e w' ⟨rfl, rfl⟩)
          go_round
          case rel => exact ⟨k + 1, by omega, by go_num, by rw [Hsum.out], Hok.out⟩
          case measure => simp [intOf]; omega
      · have Hno := Lib.hid (HO.out fun h => hin (by omega))
        obtain ⟨z, hz⟩ : ∃ z, z = l.getD k 0 := ⟨_, rfl⟩
        rw [← hz] at hcb hin
        clear hz
        go_wp2_with (go_at_call 70; refine (l1In_no _ _ _ _ hin).mono ?_; rintro e w' ⟨rfl, rfl⟩)
        go_ret2
        refine ⟨?_, rfl⟩
        rw [setOfRes, if_neg Hno.out, decide_eq_false Hno.out]; rfl
    · obtain rfl : k = m := by omega
      have Hl := Lib.hid (List.take_of_length_le (Nat.le_of_eq HL.out))
      go_wp2
      go_ret2
      refine ⟨?_, rfl⟩
      have := hv.out
      rw [Hl.out] at this
      rw [setOfRes, if_pos this, decide_eq_true this, Hl.out]; rfl
set_option maxHeartbeats 1000000 in
theorem l4Distinct_any (N : Int) (A B : Option Addr) (n c m d : Nat) (X l : List Int) (w : World) (hX : RI w A n X) (hL : RI w B m l) (hn : n ≤ 9223372036854775807) (hm : m ≤ 9223372036854775807) :
    Calls Try.prog 98 #[.agg #[.int .i64 N, .slice A n c], .slice B m d] w fun e w' => e = .returned (.bool (isVerts N X l)) ∧ Below w.heap.size w w' := by
  have HL := Lib.hid hL.1
  have hb0 := Blk.new w 26 #[.int .i64 N, .slice A n c]
  have hy0 := hb0.two
  rcases isGraph_cases N X with hg | ⟨k, Q, rfl, rfl, h⟩
  · have Hg := Lib.hid hg
    have HR := Lib.hid (isVerts_no (l := l) hg)
    clear hg
    go_enter Try.func98, Try.ntmps98
    go_wp2_with fail
    refine (setOf_any B m d l _ (hL.up (by go_grown)) hm).mono ?_
    rintro e w1 ⟨rfl, rfl⟩
    go_wp2_with fail
    refine (specIsGraph_is (hX.up (by go_grown)) hn Hg.out).mono ?_
    rintro e w2 ⟨rfl, hb2⟩
    have hU2 : Up w w2 := Up.then_ (by go_grown) hb2
    go_wp2
    go_ret
    exact ⟨ret_bool HR.out.symm, hU2⟩
  · obtain rfl : n = k := by rw [← hX.1, ints_len, h.len]
    have HR := Lib.hid (isVerts_ok (l := l) h)
    by_cases h7 : vertsP 7 l
    · have HS := Lib.hid (isSet_setZ h h7)
      have H1 := Lib.hid (show setOfRes l = (setZ l : Int) by rw [setOfRes, if_pos h7])
      have H2 := Lib.hid (decide_eq_true h7)
      clear h7
      go_enter Try.func98, Try.ntmps98
      go_wp2_with fail
      refine (setOf_any B m d l _ (hL.up (by go_grown)) hm).mono ?_
      rintro e w1 ⟨rfl, rfl⟩
      rw [H1.out, H2.out]
      go_wp2_with fail
      refine (specIsGraph_is (hX.up (by go_grown)) hn h.is).mono ?_
      rintro e w2 ⟨rfl, hb2⟩
      have hU2 : Up w w2 := Up.then_ (by go_grown) hb2
      replace hX := hX.up hU2
      replace hb0 := hb0.up hb2
      clear hy0
      have hy0 := hb0.two
      have hl0 := hb0.lt
      go_wp2_with fail
      refine (specIsSet_any n A n c (ints Q) (setZ l) _ hX hn).mono ?_
      rintro e w3 ⟨rfl, hb3⟩
      have hU3 : Up w2 w3 := Up.then_ (by go_grown) hb3
      replace hX := hX.up hU3
      have hw3 := Up.then_ hU2 hU3
      go_wp2
      go_ret
      exact ⟨ret_bool (HS.out.trans HR.out.symm), hw3⟩
    · have Hno := Lib.hid (show ¬ vertsP n l from fun e => h7 (e.mono h.le))
      have H1 := Lib.hid (show setOfRes l = 0 by rw [setOfRes, if_neg h7])
      have H2 := Lib.hid (decide_eq_false h7)
      clear h7
      go_enter Try.func98, Try.ntmps98
      go_wp2_with fail
      refine (setOf_any B m d l _ (hL.up (by go_grown)) hm).mono ?_
      rintro e w1 ⟨rfl, rfl⟩
      rw [H1.out, H2.out]
      go_wp2_with fail
      refine (specIsGraph_is (hX.up (by go_grown)) hn h.is).mono ?_
      rintro e w2 ⟨rfl, hb2⟩
      have hU2 : Up w w2 := Up.then_ (by go_grown) hb2
      go_wp2
      go_ret
      exact ⟨ret_bool (HR.out.trans (decide_eq_false Hno.out)).symm, hU2⟩
theorem l4Distinct_is {N : Int} {A B : Option Addr} {n c m d : Nat} {X l : List Int} {w : World} {b : Bool} (hX : RI w A n X) (hL : RI w B m l) (hn : n ≤ 9223372036854775807) (hm : m ≤ 9223372036854775807) (h : isVerts N X l = b) :
    Calls Try.prog 98 #[.agg #[.int .i64 N, .slice A n c], .slice B m d] w fun e w' => e = .returned (.bool b) ∧ Below w.heap.size w w' := by
  subst h; exact l4Distinct_any N A B n c m d X l w hX hL hn hm
theorem specIsOrder_any (N : Int) (A B : Option Addr) (n c m d : Nat) (X l : List Int) (w : World) (hX : RI w A n X) (hL : RI w B m l) (hn : n ≤ 9223372036854775807) (hm : m ≤ 9223372036854775807) :
    Calls Try.prog 68 #[.agg #[.int .i64 N, .slice A n c], .slice B m d] w fun e w' => e = .returned (.bool (isOrder N X l)) ∧ Below w.heap.size w w' := by
  have HL := Lib.hid hL.1
  rcases Bool.eq_false_or_eq_true (isVerts N X l) with e1 | e1
  · have HR := Lib.hid ((isOrder_yes e1).trans (show decide ((l.length : Int) = N) = ((m : Int) == N) by rw [HL.out]; rfl))
    have H1 := Lib.hid e1
    clear e1
    go_enter Try.func68, Try.ntmps68
    go_wp2_with fail
    refine (l4Distinct_is (hX.up (by go_grown)) (hL.up (by go_grown)) hn hm H1.out).mono ?_
    rintro e w1 ⟨rfl, hb1⟩
    have hU1 : Up w w1 := Up.then_ (by go_grown) hb1
    have hblk := (Blk.new w 26 #[.int .i64 N, .slice A n c]).up hb1
    have hyb := hblk.two
    go_wp2
    go_ret
    exact ⟨ret_bool HR.out.symm, hU1⟩
  · have HR := Lib.hid (isOrder_no e1)
    have H1 := Lib.hid e1
    clear e1
    go_enter Try.func68, Try.ntmps68
    go_wp2_with fail
    refine (l4Distinct_is (hX.up (by go_grown)) (hL.up (by go_grown)) hn hm H1.out).mono ?_
    rintro e w1 ⟨rfl, hb1⟩
    have hU1 : Up w w1 := Up.then_ (by go_grown) hb1
    go_wp2
    go_ret
    exact ⟨ret_bool HR.out.symm, hU1⟩
theorem specIsOrder_is {N : Int} {A B : Option Addr} {n c m d : Nat} {X l : List Int} {w : World} {b : Bool} (hX : RI w A n X) (hL : RI w B m l) (hn : n ≤ 9223372036854775807) (hm : m ≤ 9223372036854775807) (h : isOrder N X l = b) :
    Calls Try.prog 68 #[.agg #[.int .i64 N, .slice A n c], .slice B m d] w fun e w' => e = .returned (.bool b) ∧ Below w.heap.size w w' := by
  subst h; exact specIsOrder_any N A B n c m d X l w hX hL hn hm
end Go.Proofs.Ythncdjcmlpiebaa
namespace Go.Proofs.Ythncdjcmlpiebaa
open Go.RowKit
theorem add_0_ (g k : Nat) : (⟨g, 0, none⟩ : Addr).add k = ⟨g, k, none⟩ := by unfold Addr.add; split <;> simp_all
theorem OwnI.frz_ {w : World} {base g n c : Nat} {xs : List Int} (h : OwnI w base (some ⟨g, 0, none⟩) n c xs) (k : Nat) : w.frozen? ⟨g, k, none⟩ = false := World.ownsRow.frozenAt h k
/-- A call of function f comes to its body. -/
def EntersF (f : FuncId) : Prop := ∀ (args : Array Value) (w : World), (callFunc f args).run Try.prog w = .ok (.enter f args) w
theorem entersF {f : FuncId} {fn : Func} {c : Code} (hf : Try.prog.funcs[f]? = some fn) (hname : (fn.name == "runtime.NumGoroutine") = false) (hb : fn.body = some c) : EntersF f := by
  intro args w
  have h1 : fn.name ≠ "runtime.NumGoroutine" := by simpa using hname
  simp [callFunc, hf, h1, hb, mark]
def idxF (p : Int → Bool) (xs : List Int) : Int := if xs.any p then (xs.findIdx p : Int) else -1
theorem idxF_at {p : Int → Bool} {xs : List Int} {k : Nat} (hk : k < xs.length) (h : p (xs.getD k 0) = true) (hno : ∀ j, j < k → p (xs.getD j 0) = false) : idxF p xs = k := by
  have h1 : p xs[k] = true := by simpa [List.getD, List.getElem?_eq_getElem hk] using h
  rw [idxF, if_pos (List.any_eq_true.2 ⟨_, List.getElem_mem hk, h1⟩)]
  have hi : xs.findIdx p < xs.length := List.findIdx_lt_length_of_exists ⟨_, List.getElem_mem hk, h1⟩
  have hg : p xs[xs.findIdx p] = true := List.findIdx_getElem (w := hi)
  rcases Nat.lt_trichotomy (xs.findIdx p) k with hlt | he | hlt
  · have := hno _ hlt
    simp [List.getD, List.getElem?_eq_getElem hi, hg] at this
  · rw [he]
  · have := List.not_of_lt_findIdx hlt
    rw [h1] at this
    cases this
theorem idxF_none {p : Int → Bool} {xs : List Int} (h : ∀ j, j < xs.length → p (xs.getD j 0) = false) : idxF p xs = -1 := by
  rw [idxF, if_neg]
  intro hm
  obtain ⟨x, hx, e⟩ := List.any_eq_true.1 hm
  obtain ⟨j, hj, rfl⟩ := List.mem_iff_getElem.1 hx
  have := h j hj
  simp [List.getD, List.getElem?_eq_getElem hj, e] at this
theorem idxF_nonneg (p : Int → Bool) (xs : List Int) : decide (0 ≤ idxF p xs) = xs.any p := by
  rw [idxF]
  split
  · rename_i h; rw [h]; exact decide_eq_true (by omega)
  · rename_i h; rw [Bool.eq_false_iff.2 h]; exact decide_eq_false (by omega)
set_option maxHeartbeats 1000000 in
set_option maxRecDepth 100000 in
theorem slIndexFunc_any (f : FuncId) (caps : Array Value) (p : Int → Bool) (A : Option Addr) (n c : Nat) (xs : List Int) (w : World) (hA : RI w A n xs) (hn : n ≤ 9223372036854775807) (he : EntersF f)
    (hp : ∀ j, j < n → ∀ w', Up w w' → Calls Try.prog f (#[.int .i64 (xs.getD j 0)] ++ caps) w' fun e w'' => e = .returned (.bool (p (xs.getD j 0))) ∧ Below w'.heap.size w' w'') :
    Calls Try.prog 72 #[.slice A n c, .func (.func f) #[] caps] w fun e w' => e = .returned (.int .i64 (idxF p xs)) ∧ Below w.heap.size w w' := by
  have HX := Lib.hid hA.1
  have HP := Lib.hid hp
  clear hp
  unfold EntersF at he
  go_enter Try.func72, Try.ntmps72
  go_wp2
  go_loopw [8] (fun i wr => ∃ k : Nat, k ≤ n ∧ i = .int .i64 k ∧ Up w wr ∧ Hid (∀ j, j < k → p (xs.getD j 0) = false)) (fun i _ => n - (intOf i).toNat)
  case atStart => exact ⟨0, Nat.zero_le _, rfl, Up.refl _, fun j h => absurd h (by omega)⟩
  case round =>
    obtain ⟨k, hk, rfl, hb, hno⟩ := hrel
    by_cases hlt : k < n
    · obtain ⟨a, rfl, _, hca⟩ := (hA.up hb).at_ hlt
      obtain ⟨z, hz⟩ : ∃ z, z = xs.getD k 0 := ⟨_, rfl⟩
      rw [← hz] at hca
      have Hz := Lib.hid hz
      clear hz
      go_wp2_with fail
      refine (show Calls Try.prog f (#[.int .i64 z] ++ caps) wr fun e w'' => e = .returned (.bool (p z)) ∧ Below wr.heap.size wr w'' by rw [Hz.out]; exact HP.out k hlt wr hb).mono ?_
      rintro e w2 ⟨rfl, hb2⟩
      have hw2 := Up.then_ hb hb2
      rcases Bool.eq_false_or_eq_true (p z) with e1 | e1
      · have HR := Lib.hid (idxF_at (p := p) (xs := xs) (k := k) (by rw [HX.out]; exact hlt) (by rw [← Hz.out]; exact e1) hno.out)
        rw [e1]
        clear e1
        go_wp2
        go_ret
        exact ⟨ret_int HR.out.symm, hw2⟩
      · have E1 := Lib.hid e1
        rw [e1]
        clear e1
        go_wp2
        go_roundw
        case rel => exact ⟨k + 1, by omega, by go_num, hw2, fun j hj => by
          rcases Nat.lt_succ_iff_lt_or_eq.1 hj with h' | rfl
          · exact hno.out j h'
          · rw [← Hz.out]; exact E1.out⟩
        case measure => simp [intOf]; omega
    · obtain rfl : k = n := by omega
      have HR := Lib.hid (idxF_none (p := p) (xs := xs) (by rw [HX.out]; exact hno.out))
      go_wp2
      go_ret
      exact ⟨ret_int HR.out.symm, hb⟩
theorem slContainsFunc_any (f : FuncId) (caps : Array Value) (p : Int → Bool) (A : Option Addr) (n c : Nat) (xs : List Int) (w : World) (hA : RI w A n xs) (hn : n ≤ 9223372036854775807) (he : EntersF f)
    (hp : ∀ j, j < n → ∀ w', Up w w' → Calls Try.prog f (#[.int .i64 (xs.getD j 0)] ++ caps) w' fun e w'' => e = .returned (.bool (p (xs.getD j 0))) ∧ Below w'.heap.size w' w'') :
    Calls Try.prog 77 #[.slice A n c, .func (.func f) #[] caps] w fun e w' => e = .returned (.bool (xs.any p)) ∧ Below w.heap.size w w' := by
  have HZ := Lib.hid (idxF_nonneg p xs)
  go_enter Try.func77, Try.ntmps77
  go_wp2_with fail
  refine (slIndexFunc_any f caps p A n c xs _ hA hn he hp).mono ?_
  rintro e w1 ⟨rfl, hb1⟩
  go_wp2
  go_ret
  exact ⟨ret_bool HZ.out, hb1⟩
def swK (xs : List Int) : Nat → List Int
  | 0 => xs
  | k + 1 => ((swK xs k).set k ((swK xs k).getD (xs.length - 1 - k) 0)).set (xs.length - 1 - k) ((swK xs k).getD k 0)
theorem swK_len (xs : List Int) : ∀ k, (swK xs k).length = xs.length
  | 0 => rfl
  | k + 1 => by rw [swK, List.length_set, List.length_set, swK_len xs k]
theorem getD_setI {xs : List Int} {i j : Nat} {v : Int} (h : i < xs.length) : (xs.set i v).getD j 0 = if j = i then v else xs.getD j 0 := by
  simp only [List.getD_eq_getElem?_getD, List.getElem?_set]
  by_cases e : i = j
  · subst e; simp [h]
  · rw [if_neg e, if_neg (fun k => e k.symm)]
theorem swK_at (xs : List Int) : ∀ k j, 2 * k ≤ xs.length → j < xs.length → (swK xs k).getD j 0 = if j < k ∨ xs.length - k ≤ j then xs.getD (xs.length - 1 - j) 0 else xs.getD j 0
  | 0, j, _, hj => by rw [swK, if_neg (by omega)]
  | k + 1, j, hk, hj => by
    have h1 := swK_at xs k (xs.length - 1 - k) (by omega) (by omega)
    have h2 := swK_at xs k k (by omega) (by omega)
    have h3 := swK_at xs k j (by omega) hj
    rw [if_neg (by omega)] at h1 h2
    rw [swK, getD_setI (by rw [List.length_set, swK_len]; omega), getD_setI (by rw [swK_len]; omega), h1, h2, h3]
    by_cases e1 : j = xs.length - 1 - k
    · rw [if_pos e1, if_pos (by omega)]
      have : xs.length - 1 - j = k := by omega
      rw [this]
    · rw [if_neg e1]
      by_cases e2 : j = k
      · rw [if_pos e2, if_pos (by omega), e2]
      · rw [if_neg e2]
        by_cases e3 : j < k ∨ xs.length - k ≤ j
        · rw [if_pos e3, if_pos (by omega)]
        · rw [if_neg e3, if_neg (by omega)]
theorem swK_rev {xs : List Int} {k : Nat} (h : 2 * k ≤ xs.length) (h2 : xs.length ≤ 2 * k + 1) : swK xs k = xs.reverse := by
  apply List.ext_getElem
  · rw [swK_len, List.length_reverse]
  · intro j h1 h3
    rw [swK_len] at h1
    have := swK_at xs k j h h1
    rw [List.getElem_reverse]
    have e1 : (swK xs k).getD j 0 = (swK xs k)[j] := by simp [List.getD, List.getElem?_eq_getElem (show j < (swK xs k).length by rw [swK_len]; exact h1)]
    rw [← e1, this]
    by_cases e : j < k ∨ xs.length - k ≤ j
    · rw [if_pos e]
      simp [List.getD, List.getElem?_eq_getElem (show xs.length - 1 - j < xs.length by omega)]
    · rw [if_neg e]
      have : xs.length - 1 - j = j := by omega
      simp only [this]
      simp [List.getD, List.getElem?_eq_getElem h1]
set_option maxRecDepth 100000 in
set_option maxHeartbeats 2000000 in
theorem slReverse_any (g n c base : Nat) (xs : List Int) (w : World) (hA : OwnI w base (some ⟨g, 0, none⟩) n c xs) (h0 : 0 < n) (hn : n ≤ 1048576) :
    Calls Try.prog 94 #[.slice (some ⟨g, 0, none⟩) n c] w fun e w' => e = .returned (.tuple #[]) ∧ OwnI w' base (some ⟨g, 0, none⟩) n c xs.reverse ∧ w.grownBy w' (some g) := by
  have HX := Lib.hid hA.len
  go_enter Try.func94, Try.ntmps94
  go_wp2_with fail
  go_loopw [2, 3] (fun i j wr => ∃ k : Nat, 2 * k ≤ n ∧ i = .int .i64 k ∧ j = .int .i64 ((n : Int) - 1 - k) ∧ OwnI wr base (some ⟨g, 0, none⟩) n c (swK xs k) ∧ w.grownBy wr (some g)) (fun i _ _ => n - (intOf i).toNat)
  case atStart => exact ⟨0, by omega, rfl, by simp, hA, World.grownBy.refl _ _⟩
  case round =>
    obtain ⟨k, hk, rfl, rfl, hown, hg⟩ := hrel
    by_cases hlt : (k : Int) < (n : Int) - 1 - k
    · obtain ⟨j, hj⟩ : ∃ j : Nat, (n : Int) - 1 - k = j := ⟨n - 1 - k, by omega⟩
      have hjn : j = n - 1 - k := by omega
      rw [hj] at hlt ⊢
      have Hj := Lib.hid hj
      have Hjn := Lib.hid hjn
      have hjlt : j < n := by omega
      have hkn : k < n := by omega
      have hkj : k < j := by omega
      clear hj hjn
      have HS := Lib.hid (show swK xs (k + 1) = ((swK xs k).set k ((swK xs k).getD (xs.length - 1 - k) 0)).set (xs.length - 1 - k) ((swK xs k).getD k 0) from rfl)
      rw [HX.out, ← Hjn.out] at HS
      obtain ⟨ys, hys⟩ : ∃ ys, ys = swK xs k := ⟨_, rfl⟩
      rw [← hys] at hown HS
      clear hys
      have hck : wr.cell? ⟨g, k, none⟩ = some (.int .i64 (ys.getD k 0)) := by
        obtain ⟨ad, e, _, hc⟩ := hown.ri.at_ hkn
        injection e with e
        subst e
        rwa [add_0_ g k] at hc
      have hcj : wr.cell? ⟨g, j, none⟩ = some (.int .i64 (ys.getD j 0)) := by
        obtain ⟨ad, e, _, hc⟩ := hown.ri.at_ hjlt
        injection e with e
        subst e
        rwa [add_0_ g j] at hc
      have hfk := hown.frz_ k
      have hfj := hown.frz_ j
      obtain ⟨y, hy⟩ : ∃ y, y = ys.getD k 0 := ⟨_, rfl⟩
      obtain ⟨z, hz⟩ : ∃ z, z = ys.getD j 0 := ⟨_, rfl⟩
      rw [← hy] at hck HS
      rw [← hz] at hcj HS
      clear hy hz
      have hp1 := hown.put k z
      have hp2 := hp1.1.put j y
      have hne : (⟨g, k, none⟩ : Addr) ≠ ⟨g, j, none⟩ := by simp only [ne_eq, Addr.mk.injEq, not_and]; omega
      have hgg := hp1.2.trans hp2.2
      rw [← HS.out] at hp2
      have HS2 := Lib.hid (show ((n : Int) - 1 - ((k : Int) + 1)) = (j : Int) - 1 by have := Hjn.out; omega)
      go_wp2_with fail
      go_region
      go_wp2_with fail
      go_roundw
      case rel =>
        exact ⟨k + 1, by have := Hjn.out; omega, by rfl, by have := HS2.out; rw [show ((k + 1 : Nat) : Int) = (k : Int) + 1 by omega, this], hp2.1, hg.trans ⟨hgg.os, hgg.tape, hgg.output, hgg.size, hgg.block⟩⟩
      case measure => simp [intOf]; omega
    · have hd := Lib.hid (swK_rev (xs := xs) (k := k) (by rw [HX.out]; exact hk) (by rw [HX.out]; omega))
      go_wp2
      go_end0
      exact ⟨rfl, by rw [← hd.out]; exact hown, hg⟩
end Go.Proofs.Ythncdjcmlpiebaa
namespace Go.Proofs.Ythncdjcmlpiebaa
open Go.RowKit
theorem RI.nbs {w : World} {ad : Addr} {m k : Nat} {o : List Nat} (h : RI w (some ad) m (ints o)) (hk : k < m) : w.cell? (ad.add k) = some (.int .i64 (nb o k)) := by
  obtain ⟨a, e, hc⟩ := h.nb_at hk
  injection e with e
  subst e
  exact hc
theorem add_tail (a : Addr) (i j : Nat) : a.add (i + 1 + j) = ⟨a.block, a.off + (i + 1) + j, none⟩ := by
  unfold Addr.add
  rw [if_neg (by omega)]
  congr 1
  omega
end Go.Proofs.Ythncdjcmlpiebaa
namespace Go.Proofs.Ythncdjcmlpiebaa
open Go.RowKit
/-- What a search gives: the list that it found, the call's own from base on. -/
def GivesR (r : Option (List Nat)) (base : Nat) (w : World) (e : Ending) (w' : World) : Prop :=
  ∃ A c, e = .returned (.tuple #[.slice A (r.getD []).length c, .bool r.isSome]) ∧ OwnI w' base A (r.getD []).length c (ints (r.getD [])) ∧ Below w.heap.size w w'
/-- 'append(v, xs...)', v the call's own and empty. -/
theorem wpList_cat {ops : Array Oper} {rest : List Oper} {o : Oper} {a : Act} {Q : Exit → Act → World → Prop} {w : World} (hgd : o.guard = none) (s x : Operand)
    (ho : o.op = .call { callee := .builtin .append, args := #[s, x], argTypes := #[24, 24] })
    {base c m d : Nat} {A : Option Addr} {ad : Addr} {ys : List Int} (hs : a.eval s = .slice A 0 c) (hown : OwnI w base A 0 c [])
    (hx : a.eval x = .slice (some ad) m d) (hri : RI w (some ad) m ys) (hn : m ≤ 1048576) (hbase : base ≤ w.heap.size)
    (h : ∀ A' c' w', OwnI w' base A' m c' ys → Below base w w' → w.grownBy w' (Value.slice A 0 c).ownBlock → wpList Try.prog ops Q rest (a.put o.dst (.slice A' m c')) w') : wpList Try.prog ops Q (o :: rest) a w :=
  wpList_plain hgd fun K hK => by
    have hw : Region.wanted o (yielded ops a.tmps) = true := by simp [Region.wanted, hgd]
    have := step_append_new (ops := ops) (K := K) (Q := Q) (E := False) hgd s x ho hs hown hx hri hn hbase fun A' c' w' h1 h2 h3 => hK _ _ (h A' c' w' h1 h2 h3)
    rwa [if_pos hw] at this
theorem ints_app (l : List Nat) (v : Nat) : ints (l ++ [v]) = ints l ++ [(v : Int)] := (ints_snoc l v).symm
theorem dec_mem (l : List Nat) (v : Nat) : decide ((v : Int) ∈ ints l) = decide (v ∈ l) := decide_eq_decide.2 ints_mem'
end Go.Proofs.Ythncdjcmlpiebaa
namespace Go.Proofs.Ythncdjcmlpiebaa
open Go.RowKit
/-- The first umbrella order, whatever the arguments. -/
def umbOf (N : Int) (X : List Int) : Option (List Nat) := if isGraph N X then srch (umb (X.map Int.toNat)) yes N.toNat N.toNat [] else none
theorem umbOf_no {N : Int} {X : List Int} (h : isGraph N X = false) : umbOf N X = none := by rw [umbOf, h]; rfl
theorem umbOf_ok {n : Nat} {Q : List Nat} (h : GOk n Q) : umbOf n (ints Q) = srch (umb Q) yes n n [] := by rw [umbOf, if_pos h.is, nats_ints4, Int.toNat_natCast]
theorem givesIB_some {q : List Nat} {w w' : World} {A : Option Addr} {c base : Nat} (h : OwnI w' base A q.length c (ints q)) (hbase : w.heap.size ≤ base) (hb : Below w.heap.size w w') : GivesIB (ints q) true w (.returned (.tuple #[.slice A q.length c, .bool true])) w' := by
  have e := ints_len q
  exact ⟨A, c, by rw [e], (h.cast e.symm rfl).more hbase, hb⟩
theorem givesIB_none {w w' : World} {A : Option Addr} {c base : Nat} (h : OwnI w' base A 0 c []) (hbase : w.heap.size ≤ base) (hb : Below w.heap.size w w') : GivesIB [] false w (.returned (.tuple #[.slice A 0 c, .bool false])) w' :=
  ⟨A, c, rfl, h.more hbase, hb⟩
/-- The results of a search as a list and a flag. -/
def optL (r : Option (List Nat)) : List Int := ints (r.getD [])
theorem GivesR.ib {r : Option (List Nat)} {base : Nat} {w : World} {e : Ending} {w' : World} (h : GivesR r base w e w') (hb : w.heap.size ≤ base) : GivesIB (optL r) r.isSome w e w' := by
  obtain ⟨A, c, rfl, hown, hbl⟩ := h
  have e := ints_len (r.getD [])
  exact ⟨A, c, by rw [optL, e], (hown.cast e.symm rfl).more hb, hbl⟩
theorem GivesIB.up {xs : List Int} {b : Bool} {w0 w : World} {e : Ending} {w' : World} (h : GivesIB xs b w e w') (hb : Up w0 w) : GivesIB xs b w0 e w' := by
  obtain ⟨A, c, h1, h2, h3⟩ := h
  exact ⟨A, c, h1, h2.more hb.size, Up.then_ hb h3⟩
end Go.Proofs.Ythncdjcmlpiebaa
