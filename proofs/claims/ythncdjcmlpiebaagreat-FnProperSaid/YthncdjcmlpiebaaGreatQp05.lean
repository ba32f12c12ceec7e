/- Walks of chapters 4 and 5: lists of different vertices, orders. The library's IndexFunc and ContainsFunc on numbers, whatever the predicate; Reverse. Walks of chapter 12: umbrella orders. Walks of chapter 12: the first umbrella order. Walks of chapter 12: the first umbrella order, the program's search. -/
import Derived.Test.YthncdjcmlpiebaaGreatQp01
import Derived.Test.YthncdjcmlpiebaaGreatQp02
import Derived.Test.YthncdjcmlpiebaaGreatQp03
import Derived.Test.YthncdjcmlpiebaaGreatQp04
import Derived.ArgAppend
import Derived.Laws.EntriesVeiled
namespace Go.Proofs.YthncdjcmlpiebaaGreat
open Go.RowKit
set_option maxRecDepth 100000 in
theorem RI.take {w : World} {A : Option Addr} {n k : Nat} {xs : List Int} (h : RI w A n xs) (hk : k ≤ n) : RI w A k (xs.take k) := by
  refine ⟨by rw [List.length_take, h.1]; omega, fun h0 => ?_⟩
  obtain ⟨ad, e, hc⟩ := h.2 (by omega)
  refine ⟨ad, e, fun j hj => ?_⟩
  rw [hc j (by omega)]
  simp [List.getD, hj]
def idxZ (xs : List Int) (v : Int) : Int := if v ∈ xs then (xs.idxOf v : Int) else -1
set_option maxRecDepth 100000 in
theorem idxZ_at {xs : List Int} {v : Int} {k : Nat} (hk : k < xs.length) (h : xs.getD k 0 = v) (hno : ∀ j, j < k → xs.getD j 0 ≠ v) : idxZ xs v = k := by
  have h1 : xs[k] = v := by simpa [List.getD, List.getElem?_eq_getElem hk] using h
  have hm : v ∈ xs := h1 ▸ List.getElem_mem hk
  rw [idxZ, if_pos hm]
  have hi := List.idxOf_lt_length_of_mem hm
  have hg : xs[xs.idxOf v] = v := List.getElem_idxOf hi
  rcases Nat.lt_trichotomy (xs.idxOf v) k with hlt | he | hlt
  · exact absurd (by simp [List.getD, List.getElem?_eq_getElem hi, hg]) (hno _ hlt)
  · rw [he]
  · have := List.not_of_lt_findIdx (p := fun x => x == v) (xs := xs) (i := k) hlt
    simp [h1] at this
set_option maxRecDepth 100000 in
theorem idxZ_none {xs : List Int} {v : Int} (h : ∀ j, j < xs.length → xs.getD j 0 ≠ v) : idxZ xs v = -1 := by
  rw [idxZ, if_neg]
  intro hm
  obtain ⟨j, hj, e⟩ := List.mem_iff_getElem.1 hm
  exact h j hj (by simp [List.getD, List.getElem?_eq_getElem hj, e])
set_option maxRecDepth 100000 in
theorem idxZ_nonneg (xs : List Int) (v : Int) : decide (0 ≤ idxZ xs v) = decide (v ∈ xs) := by
  rw [idxZ, decide_eq_decide]
  split
  · rename_i h; exact ⟨fun _ => h, fun _ => by omega⟩
  · rename_i h; exact ⟨fun h' => by omega, fun h' => absurd h' h⟩
set_option maxRecDepth 100000 in
set_option maxHeartbeats 1000000 in
theorem slIndex_any (A : Option Addr) (n c : Nat) (v : Int) (xs : List Int) (w : World) (hA : RI w A n xs) (hn : n ≤ 9223372036854775807) :
    Calls Tryz.prog 79 #[.slice A n c, .int .i64 v] w fun e w' => e = .returned (.int .i64 (idxZ xs v)) ∧ w = w' := by
  have HX := Lib.hid hA.1
  go_enter Tryz.func79, Tryz.ntmps79
  go_wp2
  go_loop [8] (fun i => ∃ k : Nat, k ≤ n ∧ i = .int .i64 k ∧ Hid (∀ j, j < k → xs.getD j 0 ≠ v)) (fun i => n - (intOf i).toNat)
  case atStart => exact ⟨0, Nat.zero_le _, rfl, fun j h => absurd h (by omega)⟩
  case round =>
    obtain ⟨k, hk, rfl, hno⟩ := hrel
    by_cases hlt : k < n
    · obtain ⟨a, rfl, _, hca⟩ := hA.at_ hlt
      by_cases e : xs.getD k 0 = v
      · have HR := Lib.hid (idxZ_at (by rw [HX.out]; exact hlt) e hno.out)
        have hd : (v == xs[k]?.getD 0) = true := by rw [beq_iff_eq]; exact e.symm
        clear e
        go_wp2
        go_ret
        exact ⟨ret_int HR.out.symm, rfl⟩
      · have hd : (v == xs[k]?.getD 0) = false := by rw [beq_eq_false_iff_ne]; exact fun h => e h.symm
        have He := Lib.hid e
        clear e
        go_wp2
        go_round
        case rel => exact ⟨k + 1, by omega, by go_num, fun j hj => by
          rcases Nat.lt_succ_iff_lt_or_eq.1 hj with h' | rfl
          · exact hno.out j h'
          · exact He.out⟩
        case measure => simp [intOf]; omega
    · obtain rfl : k = n := by omega
      have HR := Lib.hid (idxZ_none (xs := xs) (v := v) (by rw [HX.out]; exact hno.out))
      go_wp2
      go_ret
      exact ⟨ret_int HR.out.symm, rfl⟩
set_option maxRecDepth 100000 in
theorem slContains_any (A : Option Addr) (n c : Nat) (v : Int) (xs : List Int) (w : World) (hA : RI w A n xs) (hn : n ≤ 9223372036854775807) :
    Calls Tryz.prog 126 #[.slice A n c, .int .i64 v] w fun e w' => e = .returned (.bool (decide (v ∈ xs))) ∧ w = w' := by
  have HZ := Lib.hid (idxZ_nonneg xs v)
  go_enter Tryz.func126, Tryz.ntmps126
  go_wp2_with fail
  refine (slIndex_any A n c v xs _ hA hn).mono ?_
  rintro e w' ⟨rfl, rfl⟩
  go_wp2
  go_ret
  exact ⟨ret_bool HZ.out, rfl⟩
set_option maxRecDepth 100000 in
theorem slContains_is {A : Option Addr} {n c : Nat} {v : Int} {xs : List Int} {w : World} {b : Bool} (hA : RI w A n xs) (hn : n ≤ 9223372036854775807) (h : decide (v ∈ xs) = b) :
    Calls Tryz.prog 126 #[.slice A n c, .int .i64 v] w fun e w' => e = .returned (.bool b) ∧ w = w' := by
  subst h; exact slContains_any A n c v xs w hA hn
set_option maxRecDepth 100000 in
set_option maxHeartbeats 2000000 in
theorem areVertices_any (N : Int) (A B : Option Addr) (n c m d : Nat) (X l : List Int) (w : World) (hX : RI w A n X) (hL : RI w B m l) (hn : n ≤ 9223372036854775807) (hm : m ≤ 9223372036854775807) (hmd : m ≤ d) :
    Calls Tryz.prog 133 #[.agg #[.int .i64 N, .slice A n c], .slice B m d] w fun e w' => e = .returned (.bool (isVerts N X l)) ∧ Below w.heap.size w w' := by
  have HL := Lib.hid hL.1
  rcases isGraph_cases N X with hg | ⟨k, Q, rfl, rfl, h⟩
  · have Hg := Lib.hid hg
    have HR := Lib.hid (isVerts_no (l := l) hg)
    clear hg
    have hL1 := hL.alloc (.cells #[.int .i64 N, .slice A n c] 26)
    have hy := (Blk.new w 26 #[.int .i64 N, .slice A n c]).two
    go_enter Tryz.func133, Tryz.ntmps133
    go_wp2_with fail
    go_loop [9] (fun i => ∃ k : Nat, k ≤ m ∧ i = .int .i64 k) (fun i => m - (intOf i).toNat)
    case atStart => exact ⟨0, Nat.zero_le _, rfl⟩
    case round =>
      obtain ⟨k, hk, rfl⟩ := hrel
      by_cases hlt : k < m
      · have hkd : k ≤ d := by omega
        obtain ⟨b, rfl, _, hcb⟩ := hL1.at_ hlt
        obtain ⟨z, hz⟩ : ∃ z, z = l.getD k 0 := ⟨_, rfl⟩
        rw [← hz] at hcb
        clear hz
        go_wp2_with fail
        refine (within_any z 0 _ _).mono ?_
        rintro e w1 ⟨rfl, rfl⟩
        rcases Bool.eq_false_or_eq_true (decide (0 ≤ z) && decide (z ≤ wrap64 (N - 1))) with e1 | e1
        · rw [e1]
          clear e1
          go_wp2_with fail
          refine (slContains_any (some b) k d z (l.take k) _ (hL1.take hk) (by omega)).mono ?_
          rintro e w1 ⟨rfl, rfl⟩
          rcases Bool.eq_false_or_eq_true (decide (z ∈ l.take k)) with e1 | e1
          · rw [e1]
            clear e1
            go_wp2
            go_ret
            exact ⟨ret_bool HR.out.symm, by go_grown⟩
          · rw [e1]
            clear e1
            go_wp2
            go_round
            case rel => exact ⟨k + 1, by omega, by go_num⟩
            case measure => simp [intOf]; omega
        · rw [e1]
          clear e1
          go_wp2
          go_ret
          exact ⟨ret_bool HR.out.symm, by go_grown⟩
      · obtain rfl : k = m := by omega
        go_wp2_with fail
        refine (implIsGraph_is (hX.up (by go_grown)) hn Hg.out).mono ?_
        rintro e w1 ⟨rfl, hb1⟩
        have hU1 : Up w w1 := Up.then_ (by go_grown) hb1
        go_wp2
        go_ret
        exact ⟨ret_bool HR.out.symm, hU1⟩
  · obtain rfl : n = k := by rw [← hX.1, ints_len, h.len]
    have hn7 := h.le
    have hn1 := h.pos
    have HR := Lib.hid (isVerts_ok (l := l) h)
    have hL1 := hL.alloc (.cells #[.int .i64 n, .slice A n c] 26)
    have hy := (Blk.new w 26 #[.int .i64 n, .slice A n c]).two
    go_enter Tryz.func133, Tryz.ntmps133
    go_wp2_with fail
    go_loop [9] (fun i => ∃ k : Nat, k ≤ m ∧ i = .int .i64 k ∧ Hid (vertsP n (l.take k))) (fun i => m - (intOf i).toNat)
    case atStart => exact ⟨0, Nat.zero_le _, rfl, vertsP_nil n⟩
    case round =>
      obtain ⟨k, hk, rfl, hv⟩ := hrel
      by_cases hlt : k < m
      · have hkd : k ≤ d := by omega
        obtain ⟨b, rfl, _, hcb⟩ := hL1.at_ hlt
        have HS := Lib.hid (take_snocI (l := l) (k := k) (by rw [HL.out]; exact hlt))
        have HO := Lib.hid (vertsP_out (n := n) (l := l) (k := k) (by rw [HL.out]; exact hlt))
        obtain ⟨z, hz⟩ : ∃ z, z = l.getD k 0 := ⟨_, rfl⟩
        rw [← hz] at hcb HS HO
        clear hz
        by_cases e1 : 0 ≤ z ∧ z ≤ (n : Int) - 1
        · have HZ : Hid (0 ≤ z ∧ z < (n : Int)) := (show 0 ≤ z ∧ z < (n : Int) by omega)
          go_wp2_with fail
          refine (within_yes z 0 _ _ e1).mono ?_
          clear e1
          rintro e w1 ⟨rfl, rfl⟩
          rcases Bool.eq_false_or_eq_true (decide (z ∈ l.take k)) with e1 | e1
          · have Hno := Lib.hid (HO.out fun h => h.2 (by simpa using e1))
            go_wp2_with fail
            refine (slContains_is (hL1.take hk) (by omega) e1).mono ?_
            clear e1
            rintro e w1 ⟨rfl, rfl⟩
            go_wp2
            go_ret
            exact ⟨ret_bool (HR.out.trans (decide_eq_false Hno.out)).symm, by go_grown⟩
          · have Hok := Lib.hid (show vertsP n (l.take (k + 1)) by rw [HS.out, vertsP_snoc]; exact ⟨hv.out, HZ.out, by simpa using e1⟩)
            go_wp2_with fail
            refine (slContains_is (hL1.take hk) (by omega) e1).mono ?_
            clear e1
            rintro e w1 ⟨rfl, rfl⟩
            go_wp2
            go_round
            case rel => exact ⟨k + 1, by omega, by go_num, Hok.out⟩
            case measure => simp [intOf]; omega
        · have Hno := Lib.hid (HO.out fun h => e1 (by omega))
          go_wp2_with fail
          refine (within_no z 0 _ _ e1).mono ?_
          clear e1
          rintro e w1 ⟨rfl, rfl⟩
          go_wp2
          go_ret
          exact ⟨ret_bool (HR.out.trans (decide_eq_false Hno.out)).symm, by go_grown⟩
      · obtain rfl : k = m := by omega
        have Hl := Lib.hid (List.take_of_length_le (Nat.le_of_eq HL.out))
        go_wp2_with fail
        refine (implIsGraph_is (hX.up (by go_grown)) hn h.is).mono ?_
        rintro e w1 ⟨rfl, hb1⟩
        have hU1 : Up w w1 := Up.then_ (by go_grown) hb1
        go_wp2
        go_ret
        exact ⟨ret_bool (HR.out.trans (decide_eq_true (by have := hv.out; rw [Hl.out] at this; exact this))).symm, hU1⟩
set_option maxRecDepth 100000 in
theorem areVertices_is {N : Int} {A B : Option Addr} {n c m d : Nat} {X l : List Int} {w : World} {b : Bool} (hX : RI w A n X) (hL : RI w B m l) (hn : n ≤ 9223372036854775807) (hm : m ≤ 9223372036854775807) (hmd : m ≤ d) (h : isVerts N X l = b) :
    Calls Tryz.prog 133 #[.agg #[.int .i64 N, .slice A n c], .slice B m d] w fun e w' => e = .returned (.bool b) ∧ Below w.heap.size w w' := by
  subst h; exact areVertices_any N A B n c m d X l w hX hL hn hm hmd
set_option maxRecDepth 100000 in
theorem implIsOrder_any (N : Int) (A B : Option Addr) (n c m d : Nat) (X l : List Int) (w : World) (hX : RI w A n X) (hL : RI w B m l) (hn : n ≤ 9223372036854775807) (hm : m ≤ 9223372036854775807) (hmd : m ≤ d) :
    Calls Tryz.prog 74 #[.agg #[.int .i64 N, .slice A n c], .slice B m d] w fun e w' => e = .returned (.bool (isOrder N X l)) ∧ Below w.heap.size w w' := by
  have HL := Lib.hid hL.1
  rcases Bool.eq_false_or_eq_true (isVerts N X l) with e1 | e1
  · have HR := Lib.hid ((isOrder_yes e1).trans (show decide ((l.length : Int) = N) = ((m : Int) == N) by rw [HL.out]; rfl))
    have H1 := Lib.hid e1
    clear e1
    go_enter Tryz.func74, Tryz.ntmps74
    go_wp2_with fail
    refine (areVertices_is (hX.up (by go_grown)) (hL.up (by go_grown)) hn hm hmd H1.out).mono ?_
    rintro e w1 ⟨rfl, hb1⟩
    have hU1 : Up w w1 := Up.then_ (by go_grown) hb1
    have hblk := (Blk.new w 26 #[.int .i64 N, .slice A n c]).up hb1
    have hyb := hblk.two
    go_wp2
    go_ret
    exact ⟨ret_bool HR.out.symm, hU1⟩
  · have HR := Lib.hid (isOrder_no e1)
    have H1 := Lib.hid e1
    clear e1
    go_enter Tryz.func74, Tryz.ntmps74
    go_wp2_with fail
    refine (areVertices_is (hX.up (by go_grown)) (hL.up (by go_grown)) hn hm hmd H1.out).mono ?_
    rintro e w1 ⟨rfl, hb1⟩
    have hU1 : Up w w1 := Up.then_ (by go_grown) hb1
    go_wp2
    go_ret
    exact ⟨ret_bool HR.out.symm, hU1⟩
set_option maxRecDepth 100000 in
theorem implIsOrder_is {N : Int} {A B : Option Addr} {n c m d : Nat} {X l : List Int} {w : World} {b : Bool} (hX : RI w A n X) (hL : RI w B m l) (hn : n ≤ 9223372036854775807) (hm : m ≤ 9223372036854775807) (hmd : m ≤ d) (h : isOrder N X l = b) :
    Calls Tryz.prog 74 #[.agg #[.int .i64 N, .slice A n c], .slice B m d] w fun e w' => e = .returned (.bool b) ∧ Below w.heap.size w w' := by
  subst h; exact implIsOrder_any N A B n c m d X l w hX hL hn hm hmd
def setOfRes (l : List Int) : Int := if vertsP 7 l then (setZ l : Int) else 0
set_option maxRecDepth 100000 in
set_option maxHeartbeats 2000000 in
theorem setOf_any (B : Option Addr) (m d : Nat) (l : List Int) (w : World) (hL : RI w B m l) (hm : m ≤ 9223372036854775807) :
    Calls Tryz.prog 161 #[.slice B m d] w fun e w' => e = .returned (.tuple #[.int .i64 (setOfRes l), .bool (decide (vertsP 7 l))]) ∧ w = w' := by
  have HL := Lib.hid hL.1
  go_enter Tryz.func161, Tryz.ntmps161
  go_wp2_with fail
  go_loop [4, 5] (fun s i => ∃ k : Nat, k ≤ m ∧ i = .int .i64 k ∧ s = .int .i64 (setZ (l.take k)) ∧ Hid (vertsP 7 (l.take k))) (fun _ i => m - (intOf i).toNat)
  case atStart => exact ⟨0, Nat.zero_le _, rfl, rfl, vertsP_nil 7⟩
  case round =>
    obtain ⟨k, hk, rfl, rfl, hv⟩ := hrel
    have hs7 := setZ_lt (n := 7) hv.out.1
    by_cases hlt : k < m
    · obtain ⟨b, rfl, _, hcb⟩ := hL.at_ hlt
      have HS := Lib.hid (take_snocI (l := l) (k := k) (by rw [HL.out]; exact hlt))
      have HO := Lib.hid (vertsP_out (n := 7) (l := l) (k := k) (by rw [HL.out]; exact hlt))
      by_cases hin : 0 ≤ l.getD k 0 ∧ l.getD k 0 ≤ 6
      · obtain ⟨x, hx⟩ : ∃ x : Nat, l.getD k 0 = x := ⟨(l.getD k 0).toNat, by omega⟩
        rw [hx] at hcb hin HS HO
        have hx6 : x ≤ 6 := by omega
        have hbit := bit_one (setZ (l.take k)) x (by omega)
        rw [setZ_bit hv.out.1] at hbit
        clear hx
        by_cases e1 : (x : Int) ∈ l.take k
        · have Hno := Lib.hid (HO.out fun h => h.2 e1)
          rw [decide_eq_true e1] at hbit
          clear e1
          go_wp2_with (go_at_call 72; refine (l1In_eq hin).mono ?_; rintro e w' ⟨rfl, rfl⟩)
          go_ret2
          refine ⟨?_, rfl⟩
          rw [setOfRes, if_neg Hno.out, decide_eq_false Hno.out]; rfl
        · have Hok := Lib.hid (show vertsP 7 (l.take (k + 1)) by rw [HS.out, vertsP_snoc]; exact ⟨hv.out, by omega, e1⟩)
          have Hsum := Lib.hid (show ((setZ (l.take k) : Nat) : Int) + ((p2 x : Nat) : Int) = ((setZ (l.take (k + 1)) : Nat) : Int) by
            rw [HS.out, setZ_snoc]
            have h1 := add_bit (a := setZ (l.take k)) (x := x) (by rw [setZ_bit hv.out.1]; exact decide_eq_false e1)
            have h2 : ((x : Int)).toNat = x := by omega
            rw [h2, ← h1]
            rfl)
          have hsh := shl_p2 (k := x) (by omega)
          have hp := p2_le (k := x) (by omega)
          rw [decide_eq_false e1] at hbit
          clear e1
          go_wp2_with (go_at_call 72; refine (l1In_eq hin).mono ?_; rintro e w' ⟨rfl, rfl⟩)
          go_round
          case rel => exact ⟨k + 1, by omega, by go_num, by rw [Hsum.out], Hok.out⟩
          case measure => simp [intOf]; omega
      · have Hno := Lib.hid (HO.out fun h => hin (by omega))
        obtain ⟨z, hz⟩ : ∃ z, z = l.getD k 0 := ⟨_, rfl⟩
        rw [← hz] at hcb hin
        clear hz
        go_wp2_with (go_at_call 72; refine (l1In_no _ _ _ _ hin).mono ?_; rintro e w' ⟨rfl, rfl⟩)
        go_ret2
        refine ⟨?_, rfl⟩
        rw [setOfRes, if_neg Hno.out, decide_eq_false Hno.out]; rfl
    · obtain rfl : k = m := by omega
      have Hl := Lib.hid (List.take_of_length_le (Nat.le_of_eq HL.out))
      go_wp2
      go_ret2
      refine ⟨?_, rfl⟩
      have := hv.out
      rw [Hl.out] at this
      rw [setOfRes, if_pos this, decide_eq_true this, Hl.out]; rfl
set_option maxRecDepth 100000 in
set_option maxHeartbeats 1000000 in
theorem l4Distinct_any (N : Int) (A B : Option Addr) (n c m d : Nat) (X l : List Int) (w : World) (hX : RI w A n X) (hL : RI w B m l) (hn : n ≤ 9223372036854775807) (hm : m ≤ 9223372036854775807) :
    Calls Tryz.prog 140 #[.agg #[.int .i64 N, .slice A n c], .slice B m d] w fun e w' => e = .returned (.bool (isVerts N X l)) ∧ Below w.heap.size w w' := by
  have HL := Lib.hid hL.1
  have hb0 := Blk.new w 26 #[.int .i64 N, .slice A n c]
  have hy0 := hb0.two
  rcases isGraph_cases N X with hg | ⟨k, Q, rfl, rfl, h⟩
  · have Hg := Lib.hid hg
    have HR := Lib.hid (isVerts_no (l := l) hg)
    clear hg
    go_enter Tryz.func140, Tryz.ntmps140
    go_wp2_with fail
    refine (setOf_any B m d l _ (hL.up (by go_grown)) hm).mono ?_
    rintro e w1 ⟨rfl, rfl⟩
    go_wp2_with fail
    refine (specIsGraph_is (hX.up (by go_grown)) hn Hg.out).mono ?_
    rintro e w2 ⟨rfl, hb2⟩
    have hU2 : Up w w2 := Up.then_ (by go_grown) hb2
    go_wp2
    go_ret
    exact ⟨ret_bool HR.out.symm, hU2⟩
  · obtain rfl : n = k := by rw [← hX.1, ints_len, h.len]
    have HR := Lib.hid (isVerts_ok (l := l) h)
    by_cases h7 : vertsP 7 l
    · have HS := Lib.hid (isSet_setZ h h7)
      have H1 := Lib.hid (show setOfRes l = (setZ l : Int) by rw [setOfRes, if_pos h7])
      have H2 := Lib.hid (decide_eq_true h7)
      clear h7
      go_enter Tryz.func140, Tryz.ntmps140
      go_wp2_with fail
      refine (setOf_any B m d l _ (hL.up (by go_grown)) hm).mono ?_
      rintro e w1 ⟨rfl, rfl⟩
      rw [H1.out, H2.out]
      go_wp2_with fail
      refine (specIsGraph_is (hX.up (by go_grown)) hn h.is).mono ?_
      rintro e w2 ⟨rfl, hb2⟩
      have hU2 : Up w w2 := Up.then_ (by go_grown) hb2
      replace hX := hX.up hU2
      replace hb0 := hb0.up hb2
      clear hy0
      have hy0 := hb0.two
      have hl0 := hb0.lt
      go_wp2_with fail
      refine (specIsSet_any n A n c (ints Q) (setZ l) _ hX hn).mono ?_
      rintro e w3 ⟨rfl, hb3⟩
      have hU3 : Up w2 w3 := Up.then_ (by go_grown) hb3
      replace hX := hX.up hU3
      have hw3 := Up.then_ hU2 hU3
      go_wp2
      go_ret
      exact ⟨ret_bool (HS.out.trans HR.out.symm), hw3⟩
    · have Hno := Lib.hid (show ¬ vertsP n l from fun e => h7 (e.mono h.le))
      have H1 := Lib.hid (show setOfRes l = 0 by rw [setOfRes, if_neg h7])
      have H2 := Lib.hid (decide_eq_false h7)
      clear h7
      go_enter Tryz.func140, Tryz.ntmps140
      go_wp2_with fail
      refine (setOf_any B m d l _ (hL.up (by go_grown)) hm).mono ?_
      rintro e w1 ⟨rfl, rfl⟩
      rw [H1.out, H2.out]
      go_wp2_with fail
      refine (specIsGraph_is (hX.up (by go_grown)) hn h.is).mono ?_
      rintro e w2 ⟨rfl, hb2⟩
      have hU2 : Up w w2 := Up.then_ (by go_grown) hb2
      go_wp2
      go_ret
      exact ⟨ret_bool (HR.out.trans (decide_eq_false Hno.out)).symm, hU2⟩
set_option maxRecDepth 100000 in
theorem l4Distinct_is {N : Int} {A B : Option Addr} {n c m d : Nat} {X l : List Int} {w : World} {b : Bool} (hX : RI w A n X) (hL : RI w B m l) (hn : n ≤ 9223372036854775807) (hm : m ≤ 9223372036854775807) (h : isVerts N X l = b) :
    Calls Tryz.prog 140 #[.agg #[.int .i64 N, .slice A n c], .slice B m d] w fun e w' => e = .returned (.bool b) ∧ Below w.heap.size w w' := by
  subst h; exact l4Distinct_any N A B n c m d X l w hX hL hn hm
set_option maxRecDepth 100000 in
theorem specIsOrder_any (N : Int) (A B : Option Addr) (n c m d : Nat) (X l : List Int) (w : World) (hX : RI w A n X) (hL : RI w B m l) (hn : n ≤ 9223372036854775807) (hm : m ≤ 9223372036854775807) :
    Calls Tryz.prog 85 #[.agg #[.int .i64 N, .slice A n c], .slice B m d] w fun e w' => e = .returned (.bool (isOrder N X l)) ∧ Below w.heap.size w w' := by
  have HL := Lib.hid hL.1
  rcases Bool.eq_false_or_eq_true (isVerts N X l) with e1 | e1
  · have HR := Lib.hid ((isOrder_yes e1).trans (show decide ((l.length : Int) = N) = ((m : Int) == N) by rw [HL.out]; rfl))
    have H1 := Lib.hid e1
    clear e1
    go_enter Tryz.func85, Tryz.ntmps85
    go_wp2_with fail
    refine (l4Distinct_is (hX.up (by go_grown)) (hL.up (by go_grown)) hn hm H1.out).mono ?_
    rintro e w1 ⟨rfl, hb1⟩
    have hU1 : Up w w1 := Up.then_ (by go_grown) hb1
    have hblk := (Blk.new w 26 #[.int .i64 N, .slice A n c]).up hb1
    have hyb := hblk.two
    go_wp2
    go_ret
    exact ⟨ret_bool HR.out.symm, hU1⟩
  · have HR := Lib.hid (isOrder_no e1)
    have H1 := Lib.hid e1
    clear e1
    go_enter Tryz.func85, Tryz.ntmps85
    go_wp2_with fail
    refine (l4Distinct_is (hX.up (by go_grown)) (hL.up (by go_grown)) hn hm H1.out).mono ?_
    rintro e w1 ⟨rfl, hb1⟩
    have hU1 : Up w w1 := Up.then_ (by go_grown) hb1
    go_wp2
    go_ret
    exact ⟨ret_bool HR.out.symm, hU1⟩
set_option maxRecDepth 100000 in
theorem specIsOrder_is {N : Int} {A B : Option Addr} {n c m d : Nat} {X l : List Int} {w : World} {b : Bool} (hX : RI w A n X) (hL : RI w B m l) (hn : n ≤ 9223372036854775807) (hm : m ≤ 9223372036854775807) (h : isOrder N X l = b) :
    Calls Tryz.prog 85 #[.agg #[.int .i64 N, .slice A n c], .slice B m d] w fun e w' => e = .returned (.bool b) ∧ Below w.heap.size w w' := by
  subst h; exact specIsOrder_any N A B n c m d X l w hX hL hn hm
end Go.Proofs.YthncdjcmlpiebaaGreat
namespace Go.Proofs.YthncdjcmlpiebaaGreat
open Go.RowKit
set_option maxRecDepth 100000 in
theorem add_0_ (g k : Nat) : (⟨g, 0, none⟩ : Addr).add k = ⟨g, k, none⟩ := by unfold Addr.add; split <;> simp_all
set_option maxRecDepth 100000 in
theorem OwnI.frz_ {w : World} {base g n c : Nat} {xs : List Int} (h : OwnI w base (some ⟨g, 0, none⟩) n c xs) (k : Nat) : w.frozen? ⟨g, k, none⟩ = false := World.ownsRow.frozenAt h k
end Go.Proofs.YthncdjcmlpiebaaGreat
namespace Go.Proofs.YthncdjcmlpiebaaGreat
open Go.RowKit
set_option maxRecDepth 100000 in
theorem RI.nbs {w : World} {ad : Addr} {m k : Nat} {o : List Nat} (h : RI w (some ad) m (ints o)) (hk : k < m) : w.cell? (ad.add k) = some (.int .i64 (nb o k)) := by
  obtain ⟨a, e, hc⟩ := h.nb_at hk
  injection e with e
  subst e
  exact hc
set_option maxRecDepth 100000 in
theorem add_tail (a : Addr) (i j : Nat) : a.add (i + 1 + j) = ⟨a.block, a.off + (i + 1) + j, none⟩ := by
  unfold Addr.add
  rw [if_neg (by omega)]
  congr 1
  omega
set_option maxRecDepth 100000 in
set_option maxHeartbeats 4000000 in
theorem implUmb_any (A : Option Addr) (bd : Addr) (n c m d : Nat) (Q o : List Nat) (w : World) (hX : RI w A n (ints Q)) (hL : RI w (some bd) m (ints o)) (h : GOk n Q) (ho : ∀ v ∈ o, v < n) (hmd : m ≤ d) (hm : m ≤ 1048576) (hd : d ≤ 9223372036854775807) :
    Calls Tryz.prog 65 #[.agg #[.int .i64 n, .slice A n c], .slice (some bd) m d] w fun e w' => e = .returned (.bool (umb Q o)) ∧ Below w.heap.size w w' := by
  have hn7 := h.le
  have HL := Lib.hid (show o.length = m by have := hL.1; rwa [ints_len] at this)
  have Ho := Lib.hid ho
  have hat : ∀ k, k < m → nb o k < n := fun k hk => Ho.out _ (nb_mem (by rw [HL.out]; exact hk))
  have Hat := Lib.hid hat
  clear ho hat
  obtain ⟨a, rfl, _, _⟩ := hX.addr h.pos
  go_enter Tryz.func65, Tryz.ntmps65
  go_wp2_with fail
  go_loopw [11] (fun i wr => ∃ k : Nat, k ≤ m ∧ i = .int .i64 k ∧ Blk wr w.heap.size 26 #[.int .i64 n, .slice (some a) n c] ∧ Below w.heap.size w wr ∧ Hid (∀ i, i < k → ∀ z, z < m → ∀ j, i < j → j < z → umbAt Q o i j z = true)) (fun i _ => m - (intOf i).toNat)
  case atStart => exact ⟨0, Nat.zero_le _, rfl, Blk.new _ _ _, by go_grown, fun j h => absurd h (by omega)⟩
  case round =>
    obtain ⟨i, hi, rfl, hblk, hb, hall⟩ := hrel
    obtain ⟨wo, rfl⟩ : ∃ wo : World, wo = wr := ⟨_, rfl⟩
    by_cases hit : i < m
    · have hvi := Hat.out i hit
      go_wp2_with fail
      go_loopw [6] (fun s wr => ∃ z : Nat, i + 2 ≤ z ∧ z ≤ m + 2 ∧ s = .int .i64 z ∧ Blk wr w.heap.size 26 #[.int .i64 n, .slice (some a) n c] ∧ Below w.heap.size w wr ∧ Hid (∀ y, y < z → y < m → ∀ j, i < j → j < y → umbAt Q o i j y = true)) (fun s _ => m + 2 - (intOf s).toNat)
      case atStart => exact ⟨i + 2, Nat.le_refl _, by omega, by go_num, hblk, hb, fun y hy _ j h1 h2 => absurd h1 (by omega)⟩
      case round =>
        clear hblk hb
        obtain ⟨z, hz1, hz2, rfl, hblk, hb, hall2⟩ := hrel
        obtain ⟨wi, rfl⟩ : ∃ wi : World, wi = wr := ⟨_, rfl⟩
        by_cases hzt : z < m
        · have hvz := Hat.out z hzt
          have hyb := hblk.two
          have hci := (hL.up hb).nbs hit
          have hcz := (hL.up hb).nbs hzt
          obtain ⟨a', ea, hcx⟩ := (hX.up hb).nb_at hvi
          injection ea with ea
          subst ea
          have hr7 := h.nb7 (nb o i)
          rcases Bool.eq_false_or_eq_true (edge Q (nb o i) (nb o z)) with e1 | e1
          · have H1 := Lib.hid (show (nb Q (nb o i)).testBit (nb o z) = true from e1)
            have HOn := Lib.hid fun j => umbAt_on (j := j) e1
            clear e1
            go_wp2_with fail
            go_quiet ((go_at_call 112; exact Calls.quiet_of_same (has_is (by omega) (by omega) H1.out)))
            have hlo : i + 1 < d := by omega
            have hlz : i + 1 ≤ z := by omega
            have hzd : z ≤ d := by omega
            go_wp2_with fail
            have hyb2 := (hblk.drewN 0)
            clear hyb2
            go_loopw [42] (fun s wr => ∃ j : Nat, j ≤ z - (i + 1) ∧ s = .int .i64 j ∧ Blk wr w.heap.size 26 #[.int .i64 n, .slice (some a) n c] ∧ Below w.heap.size w wr ∧ Hid (∀ y, y < i + 1 + j → i < y → umbAt Q o i y z = true)) (fun s _ => z - (intOf s).toNat)
            case atStart => exact ⟨0, by omega, rfl, hblk.drewN _, below_drewN hb _, fun y hy h1 => absurd h1 (by omega)⟩
            case round =>
              clear hblk hb hyb hci hcz hcx
              obtain ⟨j, hj, rfl, hblk, hb, hall3⟩ := hrel
              obtain ⟨wj, rfl⟩ : ∃ wj : World, wj = wr := ⟨_, rfl⟩
              by_cases hjt : j < z - (i + 1)
              · have hyb := hblk.two
                have hjm : i + 1 + j < m := by omega
                have hvj := Hat.out (i + 1 + j) hjm
                have hci := (hL.up hb).nbs hit
                have hcz := (hL.up hb).nbs hzt
                have hcj := (hL.up hb).nbs hjm
                rw [add_tail] at hcj
                obtain ⟨a', ea, hcx⟩ := (hX.up hb).nb_at hvi
                injection ea with ea
                subst ea
                obtain ⟨a', ea, hcy⟩ := (hX.up hb).nb_at hvz
                injection ea with ea
                subst ea
                have hz7 := h.nb7 (nb o z)
                rcases Bool.eq_false_or_eq_true (edge Q (nb o i) (nb o (i + 1 + j))) with e2 | e2
                · have H2 := Lib.hid (show (nb Q (nb o i)).testBit (nb o (i + 1 + j)) = true from e2)
                  rcases Bool.eq_false_or_eq_true (edge Q (nb o z) (nb o (i + 1 + j))) with e3 | e3
                  · have H3 := Lib.hid (show (nb Q (nb o z)).testBit (nb o (i + 1 + j)) = true from e3)
                    have HOk := Lib.hid (show umbAt Q o i (i + 1 + j) z = true by rw [HOn.out, e2, e3]; rfl)
                    clear e2 e3
                    go_wp2_with fail
                    go_quiet ((go_at_call 112; first | exact Calls.quiet_of_same (has_is (by omega) (by omega) H2.out) | exact Calls.quiet_of_same (has_is (by omega) (by omega) H3.out)))
                    go_wp2
                    go_roundw
                    case rel => exact ⟨j + 1, by omega, by go_num, hblk.drewN _, below_drewN hb _, fun y hy h1 => by
                      rcases Nat.lt_succ_iff_lt_or_eq.1 (show y < i + 1 + j + 1 by omega) with h' | rfl
                      · exact hall3.out y h' h1
                      · exact HOk.out⟩
                    case measure => simp [intOf]; omega
                  · have H3 := Lib.hid (show (nb Q (nb o z)).testBit (nb o (i + 1 + j)) = false from e3)
                    have HNo := Lib.hid (umb_false (Q := Q) (o := o) (i := i) (j := i + 1 + j) (k := z) (by omega) (by omega) (by rw [HL.out]; exact hzt) (by rw [HOn.out, e2, e3]; rfl))
                    clear e2 e3
                    go_wp2_with fail
                    go_quiet ((go_at_call 112; first | exact Calls.quiet_of_same (has_is (by omega) (by omega) H2.out) | exact Calls.quiet_of_same (has_is (by omega) (by omega) H3.out)))
                    go_wp2
                    go_ret
                    exact ⟨ret_bool HNo.out.symm, below_drewN hb _⟩
                · have H2 := Lib.hid (show (nb Q (nb o i)).testBit (nb o (i + 1 + j)) = false from e2)
                  have HNo := Lib.hid (umb_false (Q := Q) (o := o) (i := i) (j := i + 1 + j) (k := z) (by omega) (by omega) (by rw [HL.out]; exact hzt) (by rw [HOn.out, e2]; rfl))
                  clear e2
                  go_wp2_with fail
                  go_quiet ((go_at_call 112; exact Calls.quiet_of_same (has_is (by omega) (by omega) H2.out)))
                  go_wp2
                  go_ret
                  exact ⟨ret_bool HNo.out.symm, below_drewN hb _⟩
              · obtain rfl : j = z - (i + 1) := by omega
                go_wp2
                go_roundw
                case rel => exact ⟨z + 1, by omega, by omega, by go_num, hblk, hb, fun y hy hym j h1 h2 => by
                  rcases Nat.lt_succ_iff_lt_or_eq.1 hy with h' | rfl
                  · exact hall2.out y h' hym j h1 h2
                  · exact hall3.out j (by omega) h1⟩
                case measure => simp [intOf]; omega
          · have H1 := Lib.hid (show (nb Q (nb o i)).testBit (nb o z) = false from e1)
            have HOff := Lib.hid fun j => umbAt_off (j := j) e1
            clear e1
            go_wp2_with fail
            go_quiet ((go_at_call 112; exact Calls.quiet_of_same (has_is (by omega) (by omega) H1.out)))
            go_wp2
            go_roundw
            case rel => exact ⟨z + 1, by omega, by omega, by go_num, hblk.drewN _, below_drewN hb _, fun y hy hym j h1 h2 => by
              rcases Nat.lt_succ_iff_lt_or_eq.1 hy with h' | rfl
              · exact hall2.out y h' hym j h1 h2
              · exact HOff.out j⟩
            case measure => simp [intOf]; omega
        · go_wp2
          go_roundw
          case rel => exact ⟨i + 1, by omega, by go_num, hblk, hb, fun x hx y hy j h1 h2 => by
            rcases Nat.lt_succ_iff_lt_or_eq.1 hx with h' | rfl
            · exact hall.out x h' y hy j h1 h2
            · exact hall2.out y (by omega) hy j h1 h2⟩
          case measure => simp [intOf]; omega
    · obtain rfl : i = m := by omega
      go_wp2
      go_ret
      exact ⟨ret_bool (umb_true (by rw [HL.out]; exact fun x hx y hy j h1 h2 => hall.out x hx y hy j h1 h2)).symm, hb⟩
set_option maxRecDepth 100000 in
set_option maxHeartbeats 4000000 in
theorem specUmb_any (A : Option Addr) (bd : Addr) (n c m d : Nat) (Q o : List Nat) (w : World) (hX : RI w A n (ints Q)) (hL : RI w (some bd) m (ints o)) (h : GOk n Q) (ho : ∀ v ∈ o, v < n) (hm : m ≤ 1048576) :
    Calls Tryz.prog 86 #[.agg #[.int .i64 n, .slice A n c], .slice (some bd) m d] w fun e w' => e = .returned (.bool (umb Q o)) ∧ Below w.heap.size w w' := by
  have hn7 := h.le
  have HL := Lib.hid (show o.length = m by have := hL.1; rwa [ints_len] at this)
  have Ho := Lib.hid ho
  have hat : ∀ k, k < m → nb o k < n := fun k hk => Ho.out _ (nb_mem (by rw [HL.out]; exact hk))
  have Hat := Lib.hid hat
  clear ho hat
  go_enter Tryz.func86, Tryz.ntmps86
  go_wp2_with fail
  go_loopw [5] (fun i wr => ∃ k : Nat, k ≤ m ∧ i = .int .i64 k ∧ Blk wr w.heap.size 26 #[.int .i64 n, .slice A n c] ∧ Below w.heap.size w wr ∧ Hid (∀ i, i < k → ∀ z, z < m → ∀ j, i < j → j < z → umbAt Q o i j z = true)) (fun i _ => m - (intOf i).toNat)
  case atStart => exact ⟨0, Nat.zero_le _, rfl, Blk.new _ _ _, by go_grown, fun j h => absurd h (by omega)⟩
  case round =>
    obtain ⟨i, hi, rfl, hblk, hb, hall⟩ := hrel
    obtain ⟨wo, rfl⟩ : ∃ wo : World, wo = wr := ⟨_, rfl⟩
    by_cases hit : i < m
    · have hvi := Hat.out i hit
      go_wp2_with fail
      go_loopw [6] (fun s wr => ∃ z : Nat, i + 2 ≤ z ∧ z ≤ m + 2 ∧ s = .int .i64 z ∧ Blk wr w.heap.size 26 #[.int .i64 n, .slice A n c] ∧ Below w.heap.size w wr ∧ Hid (∀ y, y < z → y < m → ∀ j, i < j → j < y → umbAt Q o i j y = true)) (fun s _ => m + 2 - (intOf s).toNat)
      case atStart => exact ⟨i + 2, Nat.le_refl _, by omega, by go_num, hblk, hb, fun y hy _ j h1 h2 => absurd h1 (by omega)⟩
      case round =>
        clear hblk hb
        obtain ⟨z, hz1, hz2, rfl, hblk, hb, hall2⟩ := hrel
        obtain ⟨wi, rfl⟩ : ∃ wi : World, wi = wr := ⟨_, rfl⟩
        by_cases hzt : z < m
        · have hvz := Hat.out z hzt
          go_wp2_with fail
          go_loopw [7] (fun s wr => ∃ j : Nat, i + 1 ≤ j ∧ j ≤ z ∧ s = .int .i64 j ∧ Blk wr w.heap.size 26 #[.int .i64 n, .slice A n c] ∧ Below w.heap.size w wr ∧ Hid (∀ y, y < j → i < y → umbAt Q o i y z = true)) (fun s _ => z - (intOf s).toNat)
          case atStart => exact ⟨i + 1, Nat.le_refl _, by omega, by go_num, hblk, hb, fun y hy h1 => absurd h1 (by omega)⟩
          case round =>
            clear hblk hb
            obtain ⟨j, hj1, hj2, rfl, hblk, hb, hall3⟩ := hrel
            obtain ⟨wj, rfl⟩ : ∃ wj : World, wj = wr := ⟨_, rfl⟩
            by_cases hjt : j < z
            · have hvj := Hat.out j (by omega)
              have hyb := hblk.two
              have hlb := hblk.lt
              have hXj := hX.up hb
              have hLj := hL.up hb
              obtain ⟨_, eb, hbl, _⟩ := hLj.addr (show 0 < m by omega)
              injection eb with eb
              subst eb
              have hci := hLj.nbs hit
              have hjm : j < m := by omega
              have hcj := hLj.nbs hjm
              have hcz := hLj.nbs hzt
              rcases Bool.eq_false_or_eq_true (edge Q (nb o i) (nb o z)) with e1 | e1
              · have H1 := Lib.hid (show (nb Q (nb o i)).testBit (nb o z) = true from e1)
                have HOn := Lib.hid (umbAt_on (j := j) e1)
                clear e1
                rcases Bool.eq_false_or_eq_true (edge Q (nb o i) (nb o j)) with e2 | e2
                · have H2 := Lib.hid (show (nb Q (nb o i)).testBit (nb o j) = true from e2)
                  have E2 := Lib.hid e2
                  clear e2
                  rcases Bool.eq_false_or_eq_true (edge Q (nb o j) (nb o z)) with e3 | e3
                  · have H3 := Lib.hid (show (nb Q (nb o j)).testBit (nb o z) = true from e3)
                    have HOk := Lib.hid (show umbAt Q o i j z = true by rw [HOn.out, E2.out, h.edge_comm, e3]; rfl)
                    clear e3
                    go_wp2
                    have hV0 : Up wj wj.drew := (Up.refl _).drew
                    refine wp_region_calm (S := (fun w' => Up wj w' ∧ (∀ b o, b < wj.heap.size → w'.cell? ⟨b, o, none⟩ = wj.cell? ⟨b, o, none⟩) ∧ w'.cell? (bd.add i) = some (.int .i64 (nb o i)) ∧ w'.cell? (bd.add j) = some (.int .i64 (nb o j)) ∧ w'.cell? (bd.add z) = some (.int .i64 (nb o z)))) (by kernel_rfl) (by kernel_rfl) (by exact ⟨hV0, fun _ _ hb => hV0.cell hb, (hV0.cell (by first | assumption | (rw [block_of_add]; assumption))).trans (by assumption), (hV0.cell (by first | assumption | (rw [block_of_add]; assumption))).trans (by assumption), (hV0.cell (by first | assumption | (rw [block_of_add]; assumption))).trans (by assumption)⟩) ?_
                    repeat (first | (refine CalmSeq.cons undef (Calm.off (by rfl)) ?_; (try simp only [Act.put, List.setIfInBounds_toArray, List.set_cons_zero, List.set_cons_succ])) | (refine CalmSeq.cons ?_ (Calm.val (by rfl) ?_) ?_; rotate_left; (intro wC hSw; (try dsimp only at hSw); go_simp; done); (try simp only [Act.put, List.setIfInBounds_toArray, List.set_cons_zero, List.set_cons_succ])) | (refine CalmSeq.cons ?_ (Calm.val (by rfl) ?_) ?_; rotate_left; (intro wC hSw; (try dsimp only at hSw); go_simp; with_reducible rfl); (try simp only [Act.put, List.setIfInBounds_toArray, List.set_cons_zero, List.set_cons_succ])) | ((refine CalmSeq.cons ?_ (Calm.call (f := ?_) (args := ?_) (by rfl) ?_ (fun wC hSw => ?_)) ?_; rotate_left 3; (intro wC; go_simp; (refine ⟨?_, ?_⟩ <;> with_reducible rfl)); (go_at_call 69; (with_reducible refine (l2Edge_is (hXj.up hSw.1) h hvi hvz H1.out).mono ?_); rintro e wD ⟨rfl, hbD⟩; apply And.intro; (with_reducible rfl); (have hUD := Up.then_ hSw.1 hbD; exact ⟨hUD, fun _ _ hb => hUD.cell hb, (hUD.cell (by first | assumption | (rw [block_of_add]; assumption))).trans (by assumption), (hUD.cell (by first | assumption | (rw [block_of_add]; assumption))).trans (by assumption), (hUD.cell (by first | assumption | (rw [block_of_add]; assumption))).trans (by assumption)⟩))); (try simp only [Act.put, List.setIfInBounds_toArray, List.set_cons_zero, List.set_cons_succ])) | ((refine CalmSeq.cons ?_ (Calm.call (f := ?_) (args := ?_) (by rfl) ?_ (fun wC hSw => ?_)) ?_; rotate_left 3; (intro wC; go_simp; (refine ⟨?_, ?_⟩ <;> with_reducible rfl)); (go_at_call 69; (with_reducible refine (l2Edge_is (hXj.up hSw.1) h hvi hvj H2.out).mono ?_); rintro e wD ⟨rfl, hbD⟩; apply And.intro; (with_reducible rfl); (have hUD := Up.then_ hSw.1 hbD; exact ⟨hUD, fun _ _ hb => hUD.cell hb, (hUD.cell (by first | assumption | (rw [block_of_add]; assumption))).trans (by assumption), (hUD.cell (by first | assumption | (rw [block_of_add]; assumption))).trans (by assumption), (hUD.cell (by first | assumption | (rw [block_of_add]; assumption))).trans (by assumption)⟩))); (try simp only [Act.put, List.setIfInBounds_toArray, List.set_cons_zero, List.set_cons_succ])) | ((refine CalmSeq.cons ?_ (Calm.call (f := ?_) (args := ?_) (by rfl) ?_ (fun wC hSw => ?_)) ?_; rotate_left 3; (intro wC; go_simp; (refine ⟨?_, ?_⟩ <;> with_reducible rfl)); (go_at_call 69; (with_reducible refine (l2Edge_is (hXj.up hSw.1) h hvj hvz H3.out).mono ?_); rintro e wD ⟨rfl, hbD⟩; apply And.intro; (with_reducible rfl); (have hUD := Up.then_ hSw.1 hbD; exact ⟨hUD, fun _ _ hb => hUD.cell hb, (hUD.cell (by first | assumption | (rw [block_of_add]; assumption))).trans (by assumption), (hUD.cell (by first | assumption | (rw [block_of_add]; assumption))).trans (by assumption), (hUD.cell (by first | assumption | (rw [block_of_add]; assumption))).trans (by assumption)⟩))); (try simp only [Act.put, List.setIfInBounds_toArray, List.set_cons_zero, List.set_cons_succ])))
                    intro w1 hS1
                    have hU1 : Up wj w1 := hS1.1
                    clear hS1 hV0
                    go_wp2
                    go_roundw
                    case rel => exact ⟨j + 1, by omega, by omega, by go_num, hblk.up hU1, Up.then_ hb hU1, fun y hy h1 => by
                      rcases Nat.lt_succ_iff_lt_or_eq.1 hy with h' | rfl
                      · exact hall3.out y h' h1
                      · exact HOk.out⟩
                    case measure => simp [intOf]; omega
                  · have H3 := Lib.hid (show (nb Q (nb o j)).testBit (nb o z) = false from e3)
                    have HNo := Lib.hid (umb_false (Q := Q) (o := o) (i := i) (j := j) (k := z) (by omega) hjt (by rw [HL.out]; exact hzt) (by rw [HOn.out, E2.out, h.edge_comm, e3]; rfl))
                    clear e3
                    go_wp2
                    have hV0 : Up wj wj.drew := (Up.refl _).drew
                    refine wp_region_calm (S := (fun w' => Up wj w' ∧ (∀ b o, b < wj.heap.size → w'.cell? ⟨b, o, none⟩ = wj.cell? ⟨b, o, none⟩) ∧ w'.cell? (bd.add i) = some (.int .i64 (nb o i)) ∧ w'.cell? (bd.add j) = some (.int .i64 (nb o j)) ∧ w'.cell? (bd.add z) = some (.int .i64 (nb o z)))) (by kernel_rfl) (by kernel_rfl) (by exact ⟨hV0, fun _ _ hb => hV0.cell hb, (hV0.cell (by first | assumption | (rw [block_of_add]; assumption))).trans (by assumption), (hV0.cell (by first | assumption | (rw [block_of_add]; assumption))).trans (by assumption), (hV0.cell (by first | assumption | (rw [block_of_add]; assumption))).trans (by assumption)⟩) ?_
                    repeat (first | (refine CalmSeq.cons undef (Calm.off (by rfl)) ?_; (try simp only [Act.put, List.setIfInBounds_toArray, List.set_cons_zero, List.set_cons_succ])) | (refine CalmSeq.cons ?_ (Calm.val (by rfl) ?_) ?_; rotate_left; (intro wC hSw; (try dsimp only at hSw); go_simp; done); (try simp only [Act.put, List.setIfInBounds_toArray, List.set_cons_zero, List.set_cons_succ])) | (refine CalmSeq.cons ?_ (Calm.val (by rfl) ?_) ?_; rotate_left; (intro wC hSw; (try dsimp only at hSw); go_simp; with_reducible rfl); (try simp only [Act.put, List.setIfInBounds_toArray, List.set_cons_zero, List.set_cons_succ])) | ((refine CalmSeq.cons ?_ (Calm.call (f := ?_) (args := ?_) (by rfl) ?_ (fun wC hSw => ?_)) ?_; rotate_left 3; (intro wC; go_simp; (refine ⟨?_, ?_⟩ <;> with_reducible rfl)); (go_at_call 69; (with_reducible refine (l2Edge_is (hXj.up hSw.1) h hvi hvz H1.out).mono ?_); rintro e wD ⟨rfl, hbD⟩; apply And.intro; (with_reducible rfl); (have hUD := Up.then_ hSw.1 hbD; exact ⟨hUD, fun _ _ hb => hUD.cell hb, (hUD.cell (by first | assumption | (rw [block_of_add]; assumption))).trans (by assumption), (hUD.cell (by first | assumption | (rw [block_of_add]; assumption))).trans (by assumption), (hUD.cell (by first | assumption | (rw [block_of_add]; assumption))).trans (by assumption)⟩))); (try simp only [Act.put, List.setIfInBounds_toArray, List.set_cons_zero, List.set_cons_succ])) | ((refine CalmSeq.cons ?_ (Calm.call (f := ?_) (args := ?_) (by rfl) ?_ (fun wC hSw => ?_)) ?_; rotate_left 3; (intro wC; go_simp; (refine ⟨?_, ?_⟩ <;> with_reducible rfl)); (go_at_call 69; (with_reducible refine (l2Edge_is (hXj.up hSw.1) h hvi hvj H2.out).mono ?_); rintro e wD ⟨rfl, hbD⟩; apply And.intro; (with_reducible rfl); (have hUD := Up.then_ hSw.1 hbD; exact ⟨hUD, fun _ _ hb => hUD.cell hb, (hUD.cell (by first | assumption | (rw [block_of_add]; assumption))).trans (by assumption), (hUD.cell (by first | assumption | (rw [block_of_add]; assumption))).trans (by assumption), (hUD.cell (by first | assumption | (rw [block_of_add]; assumption))).trans (by assumption)⟩))); (try simp only [Act.put, List.setIfInBounds_toArray, List.set_cons_zero, List.set_cons_succ])) | ((refine CalmSeq.cons ?_ (Calm.call (f := ?_) (args := ?_) (by rfl) ?_ (fun wC hSw => ?_)) ?_; rotate_left 3; (intro wC; go_simp; (refine ⟨?_, ?_⟩ <;> with_reducible rfl)); (go_at_call 69; (with_reducible refine (l2Edge_is (hXj.up hSw.1) h hvj hvz H3.out).mono ?_); rintro e wD ⟨rfl, hbD⟩; apply And.intro; (with_reducible rfl); (have hUD := Up.then_ hSw.1 hbD; exact ⟨hUD, fun _ _ hb => hUD.cell hb, (hUD.cell (by first | assumption | (rw [block_of_add]; assumption))).trans (by assumption), (hUD.cell (by first | assumption | (rw [block_of_add]; assumption))).trans (by assumption), (hUD.cell (by first | assumption | (rw [block_of_add]; assumption))).trans (by assumption)⟩))); (try simp only [Act.put, List.setIfInBounds_toArray, List.set_cons_zero, List.set_cons_succ])))
                    intro w1 hS1
                    have hU1 : Up wj w1 := hS1.1
                    clear hS1 hV0
                    go_wp2
                    go_ret
                    exact ⟨ret_bool HNo.out.symm, Up.then_ hb hU1⟩
                · have H2 := Lib.hid (show (nb Q (nb o i)).testBit (nb o j) = false from e2)
                  have HNo := Lib.hid (umb_false (Q := Q) (o := o) (i := i) (j := j) (k := z) (by omega) hjt (by rw [HL.out]; exact hzt) (by rw [HOn.out, e2]; rfl))
                  clear e2
                  go_wp2
                  have hV0 : Up wj wj.drew := (Up.refl _).drew
                  refine wp_region_calm (S := (fun w' => Up wj w' ∧ (∀ b o, b < wj.heap.size → w'.cell? ⟨b, o, none⟩ = wj.cell? ⟨b, o, none⟩) ∧ w'.cell? (bd.add i) = some (.int .i64 (nb o i)) ∧ w'.cell? (bd.add j) = some (.int .i64 (nb o j)) ∧ w'.cell? (bd.add z) = some (.int .i64 (nb o z)))) (by kernel_rfl) (by kernel_rfl) (by exact ⟨hV0, fun _ _ hb => hV0.cell hb, (hV0.cell (by first | assumption | (rw [block_of_add]; assumption))).trans (by assumption), (hV0.cell (by first | assumption | (rw [block_of_add]; assumption))).trans (by assumption), (hV0.cell (by first | assumption | (rw [block_of_add]; assumption))).trans (by assumption)⟩) ?_
                  repeat (first | (refine CalmSeq.cons undef (Calm.off (by rfl)) ?_; (try simp only [Act.put, List.setIfInBounds_toArray, List.set_cons_zero, List.set_cons_succ])) | (refine CalmSeq.cons ?_ (Calm.val (by rfl) ?_) ?_; rotate_left; (intro wC hSw; (try dsimp only at hSw); go_simp; done); (try simp only [Act.put, List.setIfInBounds_toArray, List.set_cons_zero, List.set_cons_succ])) | (refine CalmSeq.cons ?_ (Calm.val (by rfl) ?_) ?_; rotate_left; (intro wC hSw; (try dsimp only at hSw); go_simp; with_reducible rfl); (try simp only [Act.put, List.setIfInBounds_toArray, List.set_cons_zero, List.set_cons_succ])) | ((refine CalmSeq.cons ?_ (Calm.call (f := ?_) (args := ?_) (by rfl) ?_ (fun wC hSw => ?_)) ?_; rotate_left 3; (intro wC; go_simp; (refine ⟨?_, ?_⟩ <;> with_reducible rfl)); (go_at_call 69; (with_reducible refine (l2Edge_is (hXj.up hSw.1) h hvi hvz H1.out).mono ?_); rintro e wD ⟨rfl, hbD⟩; apply And.intro; (with_reducible rfl); (have hUD := Up.then_ hSw.1 hbD; exact ⟨hUD, fun _ _ hb => hUD.cell hb, (hUD.cell (by first | assumption | (rw [block_of_add]; assumption))).trans (by assumption), (hUD.cell (by first | assumption | (rw [block_of_add]; assumption))).trans (by assumption), (hUD.cell (by first | assumption | (rw [block_of_add]; assumption))).trans (by assumption)⟩))); (try simp only [Act.put, List.setIfInBounds_toArray, List.set_cons_zero, List.set_cons_succ])) | ((refine CalmSeq.cons ?_ (Calm.call (f := ?_) (args := ?_) (by rfl) ?_ (fun wC hSw => ?_)) ?_; rotate_left 3; (intro wC; go_simp; (refine ⟨?_, ?_⟩ <;> with_reducible rfl)); (go_at_call 69; (with_reducible refine (l2Edge_is (hXj.up hSw.1) h hvi hvj H2.out).mono ?_); rintro e wD ⟨rfl, hbD⟩; apply And.intro; (with_reducible rfl); (have hUD := Up.then_ hSw.1 hbD; exact ⟨hUD, fun _ _ hb => hUD.cell hb, (hUD.cell (by first | assumption | (rw [block_of_add]; assumption))).trans (by assumption), (hUD.cell (by first | assumption | (rw [block_of_add]; assumption))).trans (by assumption), (hUD.cell (by first | assumption | (rw [block_of_add]; assumption))).trans (by assumption)⟩))); (try simp only [Act.put, List.setIfInBounds_toArray, List.set_cons_zero, List.set_cons_succ])))
                  intro w1 hS1
                  have hU1 : Up wj w1 := hS1.1
                  clear hS1 hV0
                  go_wp2
                  go_ret
                  exact ⟨ret_bool HNo.out.symm, Up.then_ hb hU1⟩
              · have H1 := Lib.hid (show (nb Q (nb o i)).testBit (nb o z) = false from e1)
                have HOk := Lib.hid (umbAt_off (j := j) e1)
                clear e1
                go_wp2
                have hV0 : Up wj wj.drew := (Up.refl _).drew
                refine wp_region_calm (S := (fun w' => Up wj w' ∧ (∀ b o, b < wj.heap.size → w'.cell? ⟨b, o, none⟩ = wj.cell? ⟨b, o, none⟩) ∧ w'.cell? (bd.add i) = some (.int .i64 (nb o i)) ∧ w'.cell? (bd.add z) = some (.int .i64 (nb o z)))) (by kernel_rfl) (by kernel_rfl) (by exact ⟨hV0, fun _ _ hb => hV0.cell hb, (hV0.cell (by first | assumption | (rw [block_of_add]; assumption))).trans (by assumption), (hV0.cell (by first | assumption | (rw [block_of_add]; assumption))).trans (by assumption)⟩) ?_
                repeat (first | (refine CalmSeq.cons undef (Calm.off (by rfl)) ?_; (try simp only [Act.put, List.setIfInBounds_toArray, List.set_cons_zero, List.set_cons_succ])) | (refine CalmSeq.cons ?_ (Calm.val (by rfl) ?_) ?_; rotate_left; (intro wC hSw; (try dsimp only at hSw); go_simp; done); (try simp only [Act.put, List.setIfInBounds_toArray, List.set_cons_zero, List.set_cons_succ])) | (refine CalmSeq.cons ?_ (Calm.val (by rfl) ?_) ?_; rotate_left; (intro wC hSw; (try dsimp only at hSw); go_simp; with_reducible rfl); (try simp only [Act.put, List.setIfInBounds_toArray, List.set_cons_zero, List.set_cons_succ])) | ((refine CalmSeq.cons ?_ (Calm.call (f := ?_) (args := ?_) (by rfl) ?_ (fun wC hSw => ?_)) ?_; rotate_left 3; (intro wC; go_simp; (refine ⟨?_, ?_⟩ <;> with_reducible rfl)); (go_at_call 69; (with_reducible refine (l2Edge_is (hXj.up hSw.1) h hvi hvz H1.out).mono ?_); rintro e wD ⟨rfl, hbD⟩; apply And.intro; (with_reducible rfl); (have hUD := Up.then_ hSw.1 hbD; exact ⟨hUD, fun _ _ hb => hUD.cell hb, (hUD.cell (by first | assumption | (rw [block_of_add]; assumption))).trans (by assumption), (hUD.cell (by first | assumption | (rw [block_of_add]; assumption))).trans (by assumption)⟩))); (try simp only [Act.put, List.setIfInBounds_toArray, List.set_cons_zero, List.set_cons_succ])))
                intro w1 hS1
                have hU1 : Up wj w1 := hS1.1
                clear hS1 hV0
                go_wp2
                go_roundw
                case rel => exact ⟨j + 1, by omega, by omega, by go_num, hblk.up hU1, Up.then_ hb hU1, fun y hy h1 => by
                  rcases Nat.lt_succ_iff_lt_or_eq.1 hy with h' | rfl
                  · exact hall3.out y h' h1
                  · exact HOk.out⟩
                case measure => simp [intOf]; omega
            · obtain rfl : j = z := by omega
              go_wp2
              go_roundw
              case rel => exact ⟨j + 1, by omega, by omega, by go_num, hblk, hb, fun y hy hym x h1 h2 => by
                rcases Nat.lt_succ_iff_lt_or_eq.1 hy with h' | rfl
                · exact hall2.out y h' hym x h1 h2
                · exact hall3.out x h2 h1⟩
              case measure => simp [intOf]; omega
        · go_wp2
          go_roundw
          case rel => exact ⟨i + 1, by omega, by go_num, hblk, hb, fun x hx y hy j h1 h2 => by
            rcases Nat.lt_succ_iff_lt_or_eq.1 hx with h' | rfl
            · exact hall.out x h' y hy j h1 h2
            · exact hall2.out y (by omega) hy j h1 h2⟩
          case measure => simp [intOf]; omega
    · obtain rfl : i = m := by omega
      go_wp2
      go_ret
      exact ⟨ret_bool (umb_true (by rw [HL.out]; exact fun x hx y hy j h1 h2 => hall.out x hx y hy j h1 h2)).symm, hb⟩
end Go.Proofs.YthncdjcmlpiebaaGreat
namespace Go.Proofs.YthncdjcmlpiebaaGreat
open Go.RowKit
set_option maxRecDepth 100000 in
set_option maxHeartbeats 1000000 in
theorem l8Has_any (A : Option Addr) (n c : Nat) (v : Int) (xs : List Int) (w : World) (hA : RI w A n xs) (hn : n ≤ 9223372036854775807) :
    Calls Tryz.prog 127 #[.slice A n c, .int .i64 v] w fun e w' => e = .returned (.bool (decide (v ∈ xs))) ∧ w = w' := by
  have HX := Lib.hid hA.1
  go_enter Tryz.func127, Tryz.ntmps127
  go_wp2
  go_loop [5] (fun i => ∃ k : Nat, k ≤ n ∧ i = .int .i64 k ∧ Hid (∀ j, j < k → xs.getD j 0 ≠ v)) (fun i => n - (intOf i).toNat)
  case atStart => exact ⟨0, Nat.zero_le _, rfl, fun j h => absurd h (by omega)⟩
  case round =>
    obtain ⟨k, hk, rfl, hno⟩ := hrel
    by_cases hlt : k < n
    · obtain ⟨a, rfl, _, hca⟩ := hA.at_ hlt
      by_cases e : xs.getD k 0 = v
      · have HR := Lib.hid (show v ∈ xs by
          have hk' : k < xs.length := by rw [HX.out]; exact hlt
          have h1 : xs[k] = v := by simpa [List.getD, List.getElem?_eq_getElem hk'] using e
          exact h1 ▸ List.getElem_mem hk')
        have hd : (xs[k]?.getD 0 == v) = true := by rw [beq_iff_eq]; exact e
        clear e
        go_wp2
        go_ret
        exact ⟨ret_bool (decide_eq_true HR.out).symm, rfl⟩
      · have hd : (xs[k]?.getD 0 == v) = false := by rw [beq_eq_false_iff_ne]; exact e
        have He := Lib.hid e
        clear e
        go_wp2
        go_round
        case rel => exact ⟨k + 1, by omega, by go_num, fun j hj => by
          rcases Nat.lt_succ_iff_lt_or_eq.1 hj with h' | rfl
          · exact hno.out j h'
          · exact He.out⟩
        case measure => simp [intOf]; omega
    · obtain rfl : k = n := by omega
      have HR := Lib.hid (show v ∉ xs from fun hm => by
        obtain ⟨j, hj, e⟩ := List.mem_iff_getElem.1 hm
        exact hno.out j (by rw [← HX.out]; exact hj) (by simp [List.getD, List.getElem?_eq_getElem hj, e]))
      go_wp2
      go_ret
      exact ⟨ret_bool (decide_eq_false HR.out).symm, rfl⟩
set_option maxRecDepth 100000 in
theorem l8Has_is {A : Option Addr} {n c : Nat} {v : Int} {xs : List Int} {w : World} {b : Bool} (hA : RI w A n xs) (hn : n ≤ 9223372036854775807) (h : decide (v ∈ xs) = b) :
    Calls Tryz.prog 127 #[.slice A n c, .int .i64 v] w fun e w' => e = .returned (.bool b) ∧ w = w' := by
  subst h; exact l8Has_any A n c v xs w hA hn
/-- What a search gives: the list that it found, the call's own from base on. -/
def GivesR (r : Option (List Nat)) (base : Nat) (w : World) (e : Ending) (w' : World) : Prop :=
  ∃ A c, e = .returned (.tuple #[.slice A (r.getD []).length c, .bool r.isSome]) ∧ OwnI w' base A (r.getD []).length c (ints (r.getD [])) ∧ Below w.heap.size w w'
set_option maxRecDepth 100000 in
/-- 'append(v, xs...)', v the call's own and empty. -/
theorem wpList_cat {ops : Array Oper} {rest : List Oper} {o : Oper} {a : Act} {Q : Exit → Act → World → Prop} {w : World} (hgd : o.guard = none) (s x : Operand)
    (ho : o.op = .call { callee := .builtin .append, args := #[s, x], argTypes := #[24, 24] })
    {base c m d : Nat} {A : Option Addr} {ad : Addr} {ys : List Int} (hs : a.eval s = .slice A 0 c) (hown : OwnI w base A 0 c [])
    (hx : a.eval x = .slice (some ad) m d) (hri : RI w (some ad) m ys) (hn : m ≤ 1048576) (hbase : base ≤ w.heap.size)
    (h : ∀ A' c' w', OwnI w' base A' m c' ys → Below base w w' → w.grownBy w' (Value.slice A 0 c).ownBlock → wpList Tryz.prog ops Q rest (a.put o.dst (.slice A' m c')) w') : wpList Tryz.prog ops Q (o :: rest) a w :=
  wpList_plain hgd fun K hK => by
    have hw : Region.wanted o (yielded ops a.tmps) = true := by simp [Region.wanted, hgd]
    have := step_append_new (ops := ops) (K := K) (Q := Q) (E := False) hgd s x ho hs hown hx hri hn hbase fun A' c' w' h1 h2 h3 => hK _ _ (h A' c' w' h1 h2 h3)
    rwa [if_pos hw] at this
set_option maxRecDepth 100000 in
theorem ints_app (l : List Nat) (v : Nat) : ints (l ++ [v]) = ints l ++ [(v : Int)] := (ints_snoc l v).symm
set_option maxRecDepth 100000 in
theorem dec_mem (l : List Nat) (v : Nat) : decide ((v : Int) ∈ ints l) = decide (v ∈ l) := decide_eq_decide.2 ints_mem'
set_option maxRecDepth 100000 in
set_option maxHeartbeats 4000000 in
theorem l12Search_any (n ca : Nat) (A : Option Addr) (Q : List Nat) (h : GOk n Q) (base : Nat) : ∀ (f : Nat) (l : List Nat) (bd : Addr) (c : Nat) (w : World), l.length + f = n → (∀ v ∈ l, v < n) → OwnI w base (some bd) l.length c (ints l) → base ≤ w.heap.size → RI w A n (ints Q) →
    Calls Tryz.prog 67 #[.agg #[.int .i64 n, .slice A n ca], .slice (some bd) l.length c] w (GivesR (srch (umb Q) yes n f l) base w) := by
  have hn7 := h.le
  intro f
  induction f with
  | zero =>
    intro l bd c w hf hl hown hbase hX
    have hb0 := Blk.new w 26 #[.int .i64 n, .slice A n ca]
    have hyb := hb0.two
    have hlen : l.length = n := by omega
    have Hl := Lib.hid hlen
    have heq : ((l.length : Int) == (n : Int)) = true := by rw [beq_iff_eq]; omega
    have hown' := hown.alloc (.cells #[.int .i64 n, .slice A n ca] 26)
    clear hlen
    go_enter Tryz.func67, Tryz.ntmps67
    go_wp2_with fail
    go_ret2
    exact ⟨some bd, c, rfl, hown', by go_grown⟩
  | succ f ih =>
    intro l bd c w hf hl hown hbase hX
    have hne : ((l.length : Int) == (n : Int)) = false := by rw [beq_eq_false_iff_ne]; omega
    have Hl := Lib.hid hl
    have Ih := Lib.hid ih
    have HS := Lib.hid (srch_step (umb Q) yes n f l)
    have hb0 := Blk.new w 26 #[.int .i64 n, .slice A n ca]
    have hyb := hb0.two
    clear hl ih
    go_enter Tryz.func67, Tryz.ntmps67
    go_wp2_with fail
    go_loopw [6] (fun i wr => ∃ k : Nat, k ≤ n ∧ i = .int .i64 k ∧ Blk wr w.heap.size 26 #[.int .i64 n, .slice A n ca] ∧ Below w.heap.size w wr ∧ Hid (srchK (umb Q) yes n f l k = none)) (fun i _ => n - (intOf i).toNat)
    case atStart => exact ⟨0, Nat.zero_le _, rfl, hb0, by go_grown, srchK_zero _ _ _ _ _⟩
    case round =>
      clear hb0 hyb
      obtain ⟨k, hk, rfl, hb0, hb, hno⟩ := hrel
      have hyb := hb0.two
      by_cases hkt : k < n
      · have hsz := hb.size
        have hownr := hown.up hb
        have hown0 := OwnI.made (base := wr.heap.size) wr (Nat.le_refl _)
        have hll : l.length + 1 ≤ 1048576 := by omega
        go_wp2_with (at_builtin; first | (refine wpList_cat rfl (.tmp 22) (.tmp 23) rfl rfl hown0 rfl (hownr.ri.alloc _) (by omega) (by simp) ?_; intro A1 c1 w1 hown1 hb1 hg1; have hcell := (Blk.new w1 3 #[.int .i64 (k : Int)]).one; have hsz1 := hb1.size; simp only [World.size_alloc] at hsz1) | (refine wpList_push rfl (.tmp 24) (.tmp 26) rfl (k : Int) rfl (hown1.alloc _) ⟨w1.heap.size, 0, none⟩ rfl hcell (by omega) (by simp; omega) ?_; intro A2 c2 w2 hown2 hb2 hg2))
        have hU1 : Up wr w1 := ((Below.refl _ wr).alloc (Nat.le_refl _) _).trans hb1
        have hU2 : Up wr w2 := (hU1.alloc (Nat.le_of_succ_le hsz1) _).trans hb2
        have hx2 : OwnI w2 wr.heap.size A2 (l.length + 1) c2 (ints (l ++ [k])) := hown2.cast rfl (ints_app l k).symm
        have HLen := Lib.hid (show (l ++ [k]).length = l.length + 1 from push_len.symm)
        obtain ⟨gx, rfl⟩ := hx2.form (by omega)
        clear hown0 hown1 hown2 hcell hg1 hg2 hyb
        replace hb0 := hb0.up hU2
        have hyb := hb0.two
        have hlb := hb0.lt
        have hw2 := Up.then_ hb hU2
        have hownr2 := hownr.up hU2
        rcases Bool.eq_false_or_eq_true (decide (k ∈ l)) with e1 | e1
        · have HA := Lib.hid (srchAt_off (may := umb Q) (holds := yes) (N := n) (f := f) (v := k) (l := l) (by rw [nextOk, e1]; rfl))
          rw [← dec_mem] at e1
          refine (l8Has_is hownr2.ri (by omega) e1).mono ?_
          clear e1
          rintro e w3 ⟨rfl, rfl⟩
          go_wp2
          go_roundw
          case rel => exact ⟨k + 1, by omega, by go_num, hb0, hw2, srchK_none hno.out HA.out⟩
          case measure => simp [intOf]; omega
        · have hlv : ∀ v ∈ l ++ [k], v < n := fun v hv => by
            rcases List.mem_append.1 hv with hv | hv
            · exact Hl.out v hv
            · obtain rfl : v = k := by simpa using hv
              exact hkt
          have Hlv := Lib.hid hlv
          clear hlv
          have E1 := Lib.hid e1
          rw [← dec_mem] at e1
          refine (l8Has_is hownr2.ri (by omega) e1).mono ?_
          clear e1
          rintro e w3 ⟨rfl, rfl⟩
          have yhb0 := hb0.two
          have lhb0 := hb0.lt
          go_wp2_with fail
          refine (specUmb_any A ⟨gx, 0, none⟩ n ca (l.length + 1) c2 Q (l ++ [k]) _ (hX.up hw2) hx2.ri h Hlv.out (by omega)).mono ?_
          rintro e w4 ⟨rfl, hb4⟩
          have hU4 : Up w2 w4 := Up.then_ (by go_grown) hb4
          replace hx2 := hx2.up hU4
          replace hb0 := hb0.up hU4
          replace yhb0 := hb0.two
          replace lhb0 := hb0.lt
          have hw4 := Up.then_ hw2 hU4
          rcases Bool.eq_false_or_eq_true (umb Q (l ++ [k])) with e2 | e2
          · have HA := Lib.hid (srchAt_on (holds := yes) (N := n) (f := f) (show nextOk (umb Q) l k = true by rw [nextOk, E1.out, e2]; rfl))
            rw [e2]
            clear e2
            have hsz4 := hw4.size
            go_wp2_with fail
            have hih := Ih.out (l ++ [k]) ⟨gx, 0, none⟩ c2 w4 (by rw [HLen.out]; omega) Hlv.out (hx2.more (by omega) |>.cast HLen.out.symm rfl) (by omega) (hX.up hw4)
            rw [HLen.out] at hih
            refine hih.mono ?_
            clear hih
            intro e w5 hg5
            obtain ⟨A5, c5, rfl, hown5, hb5⟩ := hg5
            have hw5 := Up.then_ hw4 hb5
            replace hb0 := hb0.up hb5
            rcases hsr : srch (umb Q) yes n f (l ++ [k]) with _ | r
            · have HK := Lib.hid (srchK_none hno.out (HA.out.trans hsr))
              rw [hsr] at hown5
              go_wp2
              go_roundw
              case rel => exact ⟨k + 1, by omega, by go_num, hb0, hw5, HK.out⟩
              case measure => simp [intOf]; omega
            · have HK := Lib.hid (srchK_some hno.out (HA.out.trans hsr) hkt)
              rw [hsr] at hown5
              go_wp2
              go_ret2
              rw [HK.out]
              exact ⟨A5, c5, rfl, hown5, hw5⟩
          · have HA := Lib.hid (srchAt_off (may := umb Q) (holds := yes) (N := n) (f := f) (v := k) (l := l) (by rw [nextOk, E1.out, e2]; rfl))
            rw [e2]
            clear e2
            go_wp2
            go_roundw
            case rel => exact ⟨k + 1, by omega, by go_num, hb0, hw4, srchK_none hno.out HA.out⟩
            case measure => simp [intOf]; omega
      · obtain rfl : k = n := by omega
        have hsz := hb.size
        have HN := Lib.hid (HS.out.trans hno.out)
        have hown0 := OwnI.made (base := base) wr (by omega)
        have hww := hb.alloc hsz (.cells #[] 3)
        go_wp2
        go_ret2
        rw [HN.out]
        exact ⟨_, _, rfl, hown0, hww⟩
end Go.Proofs.YthncdjcmlpiebaaGreat
namespace Go.Proofs.YthncdjcmlpiebaaGreat
open Go.RowKit
set_option maxRecDepth 100000 in
theorem always_any (v : Value) (w : World) : Calls Tryz.prog 66 #[v] w fun e w' => e = .returned (.bool true) ∧ w = w' := by
  go_enter Tryz.func66, Tryz.ntmps66
  go_wp2
  go_ret
  exact ⟨rfl, rfl⟩
set_option maxRecDepth 100000 in
theorem umbMay_any (A : Option Addr) (bd : Addr) (bG n c m d : Nat) (Q o : List Nat) (w : World) (hX : RI w A n (ints Q)) (hL : RI w (some bd) m (ints o)) (h : GOk n Q) (ho : ∀ v ∈ o, v < n) (hmd : m ≤ d) (hm : m ≤ 1048576) (hd : d ≤ 9223372036854775807) (hG : Blk w bG 26 #[.int .i64 n, .slice A n c]) :
    Calls Tryz.prog 64 #[.slice (some bd) m d, .pointer (some ⟨bG, 0, none⟩)] w fun e w' => e = .returned (.bool (umb Q o)) ∧ Below w.heap.size w w' := by
  have hyb := hG.two
  go_enter Tryz.func64, Tryz.ntmps64
  go_wp2_with fail
  refine (implUmb_any A bd n c m d Q o _ hX hL h ho hmd hm hd).mono ?_
  rintro e w1 ⟨rfl, hb1⟩
  have hU1 : Up w w1 := Up.then_ (by go_grown) hb1
  go_wp2
  go_ret
  exact ⟨rfl, hU1⟩
/-- The variables that the search captures. -/
def UmbBx (w : World) (A : Option Addr) (n c bN bH bG bM bS bG2 : Nat) : Prop :=
  (Blk w bN 3 #[.int .i64 n] ∧ Blk w bH 61 #[.func (.func 66) #[] #[]]) ∧ (Blk w bG 26 #[.int .i64 n, .slice A n c] ∧ Blk w bM 61 #[.func (.func 64) #[] #[.pointer (some ⟨bG2, 0, none⟩)]]) ∧
  Blk w bS 79 #[.func (.func 124) #[] #[.pointer (some ⟨bN, 0, none⟩), .pointer (some ⟨bH, 0, none⟩), .pointer (some ⟨bG, 0, none⟩), .pointer (some ⟨bM, 0, none⟩), .pointer (some ⟨bS, 0, none⟩)]] ∧ Blk w bG2 26 #[.int .i64 n, .slice A n c]
set_option maxRecDepth 100000 in
theorem UmbBx.up {w w' : World} {A : Option Addr} {n c bN bH bG bM bS bG2 : Nat} (h : UmbBx w A n c bN bH bG bM bS bG2) (hb : Below w.heap.size w w') : UmbBx w' A n c bN bH bG bM bS bG2 :=
  ⟨⟨h.1.1.up hb, h.1.2.up hb⟩, ⟨h.2.1.1.up hb, h.2.1.2.up hb⟩, h.2.2.1.up hb, h.2.2.2.up hb⟩
set_option maxRecDepth 100000 in
theorem UmbBx.cells {w : World} {A : Option Addr} {n c bN bH bG bM bS bG2 : Nat} (h : UmbBx w A n c bN bH bG bM bS bG2) :
    w.cell? ⟨bN, 0, none⟩ = some (.int .i64 n) ∧ w.cell? ⟨bH, 0, none⟩ = some (.func (.func 66) #[] #[]) ∧ w.cell? ⟨bG, 0, none⟩ = some (.int .i64 n) ∧ w.cell? ⟨bG, 1, none⟩ = some (.slice A n c) ∧ w.cell? ⟨bM, 0, none⟩ = some (.func (.func 64) #[] #[.pointer (some ⟨bG2, 0, none⟩)]) ∧
    w.cell? ⟨bS, 0, none⟩ = some (.func (.func 124) #[] #[.pointer (some ⟨bN, 0, none⟩), .pointer (some ⟨bH, 0, none⟩), .pointer (some ⟨bG, 0, none⟩), .pointer (some ⟨bM, 0, none⟩), .pointer (some ⟨bS, 0, none⟩)]) :=
  ⟨h.1.1.one, h.1.2.one, h.2.1.1.two.1, h.2.1.1.two.2, h.2.1.2.one, h.2.2.1.one⟩
/-- What the program's search gives: a new row, or nil. -/
def GivesN (r : Option (List Nat)) (w : World) (e : Ending) (w' : World) : Prop :=
  (match r with
   | some q => ∃ g c, e = .returned (.slice (some ⟨g, 0, none⟩) q.length c) ∧ OwnI w' w.heap.size (some ⟨g, 0, none⟩) q.length c (ints q)
   | none => e = .returned (.slice none 0 0)) ∧ Below w.heap.size w w'
set_option maxRecDepth 100000 in
set_option maxHeartbeats 4000000 in
theorem umbSearch_any (n ca bN bH bG bM bS bG2 : Nat) (A : Option Addr) (Q : List Nat) (h : GOk n Q) : ∀ (f : Nat) (l : List Nat) (B : Option Addr) (c : Nat) (w : World), l.length + f = n → (∀ v ∈ l, v < n) → RI w B l.length (ints l) → (B = none → c = 0) → l.length ≤ c → c ≤ 9223372036854775807 → RI w A n (ints Q) → UmbBx w A n ca bN bH bG bM bS bG2 →
    Calls Tryz.prog 124 #[.slice B l.length c, .pointer (some ⟨bN, 0, none⟩), .pointer (some ⟨bH, 0, none⟩), .pointer (some ⟨bG, 0, none⟩), .pointer (some ⟨bM, 0, none⟩), .pointer (some ⟨bS, 0, none⟩)] w (GivesN (srch (umb Q) yes n f l) w) := by
  have hn7 := h.le
  have hn1 := h.pos
  intro f
  induction f with
  | zero =>
    intro l B c w hf hl hL hB hlc hc hX hbx
    have hlen : l.length = n := by omega
    have heq : ((l.length : Int) == (n : Int)) = true := by rw [beq_iff_eq]; omega
    have hcs := hbx.cells
    obtain ⟨bd, rfl, _, _⟩ := hL.addr (by omega)
    have Hlen := Lib.hid hlen
    have Hf := Lib.hid hf
    have h0 : 0 < l.length := by omega
    have h1 : l.length ≤ 1048576 := by omega
    clear hlen hf
    go_enter Tryz.func124, Tryz.ntmps124
    go_wp2_with fail
    refine (always_any _ _).mono ?_
    rintro e w1 ⟨rfl, rfl⟩
    go_wp2_with fail
    refine (slClone_any bd l.length c (ints l) _ hL h0 h1).mono ?_
    rintro e w1 ⟨g, c1, rfl, hown, hb1⟩
    go_wp2
    go_ret
    exact ⟨⟨g, c1, rfl, hown⟩, hb1⟩
  | succ f ih =>
    intro l B c w hf hl hL hB hlc hc hX hbx
    have hne : ((l.length : Int) == (n : Int)) = false := by rw [beq_eq_false_iff_ne]; omega
    have Hl := Lib.hid hl
    have Ih := Lib.hid ih
    have HS := Lib.hid (srch_step (umb Q) yes n f l)
    have hcs := hbx.cells
    clear hl ih
    go_enter Tryz.func124, Tryz.ntmps124
    go_wp2_with fail
    go_loopw [22] (fun i wr => ∃ k : Nat, k ≤ n ∧ i = .int .i64 k ∧ Below w.heap.size w wr ∧ Hid (srchK (umb Q) yes n f l k = none)) (fun i _ => n - (intOf i).toNat)
    case atStart => exact ⟨0, Nat.zero_le _, rfl, Below.refl _ _, srchK_zero _ _ _ _ _⟩
    case round =>
      clear hcs
      obtain ⟨k, hk, rfl, hb, hno⟩ := hrel
      have hbxr := hbx.up hb
      have hcs := hbxr.cells
      by_cases hkt : k < n
      · have hsz := hb.size
        have hLr := hL.up hb
        have hcell := (Blk.new wr 3 #[.int .i64 (k : Int)]).one
        have hB0 : B = none → l.length = 0 := fun e => by have := hB e; omega
        have HB0 := Lib.hid hB0
        clear hB0
        have hnq := neq_nil
        go_wp2_with (at_builtin; refine wpList_more rfl (.tmp 30) (.tmp 32) rfl (k : Int) rfl HB0.out (hLr.alloc _) ⟨wr.heap.size, 0, none⟩ rfl hcell (by omega) ?_; intro A1 c1 w1 hown1 hU1a)
        have hU1 : Up wr w1 := Up.then_ (by go_grown) hU1a
        have hx1 : OwnI w1 wr.heap.size A1 (l.length + 1) c1 (ints (l ++ [k])) := (hown1.more (by simp)).cast rfl (ints_app l k).symm
        have HLen := Lib.hid (show (l ++ [k]).length = l.length + 1 from push_len.symm)
        obtain ⟨gx, rfl⟩ := hx1.form (by omega)
        clear hown1 hcell hcs
        have hw1 := Up.then_ hb hU1
        replace hLr := hLr.up hU1
        replace hbxr := hbxr.up hU1
        have hcs := hbxr.cells
        rcases Bool.eq_false_or_eq_true (decide (k ∈ l)) with e1 | e1
        · have HA := Lib.hid (srchAt_off (may := umb Q) (holds := yes) (N := n) (f := f) (v := k) (l := l) (by rw [nextOk, e1]; rfl))
          rw [← dec_mem] at e1
          refine (slContains_is hLr (by omega) e1).mono ?_
          clear e1
          rintro e w3 ⟨rfl, rfl⟩
          go_wp2
          go_roundw
          case rel => exact ⟨k + 1, by omega, by go_num, hw1, srchK_none hno.out HA.out⟩
          case measure => simp [intOf]; omega
        · have hlv : ∀ v ∈ l ++ [k], v < n := fun v hv => by
            rcases List.mem_append.1 hv with hv | hv
            · exact Hl.out v hv
            · obtain rfl : v = k := by simpa using hv
              exact hkt
          have Hlv := Lib.hid hlv
          clear hlv
          have E1 := Lib.hid e1
          rw [← dec_mem] at e1
          refine (slContains_is hLr (by omega) e1).mono ?_
          clear e1
          rintro e w3 ⟨rfl, rfl⟩
          have hcap := hx1.cap
          go_wp2_with fail
          refine (umbMay_any A ⟨gx, 0, none⟩ bG2 n ca (l.length + 1) c1 Q (l ++ [k]) _ (hX.up hw1) hx1.ri h Hlv.out hcap.1 (by omega) hcap.2 hbxr.2.2.2).mono ?_
          rintro e w4 ⟨rfl, hb4⟩
          have hU4 : Up w1 w4 := Up.then_ (by go_grown) hb4
          replace hx1 := hx1.up hU4
          replace hbxr := hbxr.up hU4
          have hw4 := Up.then_ hw1 hU4
          clear hcs
          have hcs := hbxr.cells
          rcases Bool.eq_false_or_eq_true (umb Q (l ++ [k])) with e2 | e2
          · have HA := Lib.hid (srchAt_on (holds := yes) (N := n) (f := f) (show nextOk (umb Q) l k = true by rw [nextOk, E1.out, e2]; rfl))
            rw [e2]
            clear e2
            have hsz4 := hw4.size
            have hih := Ih.out (l ++ [k]) (some ⟨gx, 0, none⟩) c1 w4 (by rw [HLen.out]; omega) Hlv.out (by rw [HLen.out]; exact hx1.ri) (fun e => by cases e) (by rw [HLen.out]; exact hcap.1) hcap.2 (hX.up hw4) hbxr
            rw [HLen.out] at hih
            go_wp2_with fail
            refine hih.mono ?_
            clear hih
            rintro e w5 ⟨hg5, hb5⟩
            have hw5 := Up.then_ hw4 hb5
            rcases hsr : srch (umb Q) yes n f (l ++ [k]) with _ | r
            · have HK := Lib.hid (srchK_none hno.out (HA.out.trans hsr))
              rw [hsr] at hg5
              clear hsr
              obtain rfl := hg5
              go_wp2
              go_roundw
              case rel => exact ⟨k + 1, by omega, by go_num, hw5, HK.out⟩
              case measure => simp [intOf]; omega
            · have HK := Lib.hid (srchK_some hno.out (HA.out.trans hsr) hkt)
              rw [hsr] at hg5
              clear hsr
              obtain ⟨g5, c5, rfl, hown5⟩ := hg5
              replace hown5 := hown5.more (base' := w.heap.size) hw4.size
              go_wp2
              go_ret
              rw [HK.out]
              exact ⟨⟨g5, c5, rfl, hown5⟩, hw5⟩
          · have HA := Lib.hid (srchAt_off (may := umb Q) (holds := yes) (N := n) (f := f) (v := k) (l := l) (by rw [nextOk, E1.out, e2]; rfl))
            rw [e2]
            clear e2
            go_wp2
            go_roundw
            case rel => exact ⟨k + 1, by omega, by go_num, hw4, srchK_none hno.out HA.out⟩
            case measure => simp [intOf]; omega
      · obtain rfl : k = n := by omega
        have HN := Lib.hid (HS.out.trans hno.out)
        go_wp2
        go_ret
        rw [HN.out]
        exact ⟨rfl, hb⟩
/-- The first umbrella order, whatever the arguments. -/
def umbOf (N : Int) (X : List Int) : Option (List Nat) := if isGraph N X then srch (umb (X.map Int.toNat)) yes N.toNat N.toNat [] else none
set_option maxRecDepth 100000 in
theorem umbOf_no {N : Int} {X : List Int} (h : isGraph N X = false) : umbOf N X = none := by rw [umbOf, h]; rfl
set_option maxRecDepth 100000 in
theorem umbOf_ok {n : Nat} {Q : List Nat} (h : GOk n Q) : umbOf n (ints Q) = srch (umb Q) yes n n [] := by rw [umbOf, if_pos h.is, nats_ints4, Int.toNat_natCast]
set_option maxRecDepth 100000 in
theorem givesIB_some {q : List Nat} {w w' : World} {A : Option Addr} {c base : Nat} (h : OwnI w' base A q.length c (ints q)) (hbase : w.heap.size ≤ base) (hb : Below w.heap.size w w') : GivesIB (ints q) true w (.returned (.tuple #[.slice A q.length c, .bool true])) w' := by
  have e := ints_len q
  exact ⟨A, c, by rw [e], (h.cast e.symm rfl).more hbase, hb⟩
set_option maxRecDepth 100000 in
theorem givesIB_none {w w' : World} {A : Option Addr} {c base : Nat} (h : OwnI w' base A 0 c []) (hbase : w.heap.size ≤ base) (hb : Below w.heap.size w w') : GivesIB [] false w (.returned (.tuple #[.slice A 0 c, .bool false])) w' :=
  ⟨A, c, rfl, h.more hbase, hb⟩
/-- The results of a search as a list and a flag. -/
def optL (r : Option (List Nat)) : List Int := ints (r.getD [])
set_option maxRecDepth 100000 in
theorem GivesIB.up {xs : List Int} {b : Bool} {w0 w : World} {e : Ending} {w' : World} (h : GivesIB xs b w e w') (hb : Up w0 w) : GivesIB xs b w0 e w' := by
  obtain ⟨A, c, h1, h2, h3⟩ := h
  exact ⟨A, c, h1, h2.more hb.size, Up.then_ hb h3⟩
set_option maxRecDepth 100000 in
set_option maxHeartbeats 1000000 in
theorem specUmbrellaOf_any (N : Int) (A : Option Addr) (n c : Nat) (X : List Int) (w : World) (hX : RI w A n X) (hn : n ≤ 9223372036854775807) :
    Calls Tryz.prog 8 #[.agg #[.int .i64 N, .slice A n c]] w (GivesIB (optL (umbOf N X)) (umbOf N X).isSome w) := by
  rcases isGraph_cases N X with hg | ⟨k, Q, rfl, rfl, h⟩
  · have Hg := Lib.hid hg
    rw [umbOf_no hg]
    clear hg
    go_enter Tryz.func8, Tryz.ntmps8
    go_wp2_with fail
    refine (specIsGraph_is (hX.up (by go_grown)) hn Hg.out).mono ?_
    rintro e w1 ⟨rfl, hb1⟩
    have hU1 : Up w w1 := Up.then_ (by go_grown) hb1
    have hown0 := OwnI.made (base := w1.heap.size) w1 (Nat.le_refl _)
    have hww := hU1.alloc hU1.size (.cells #[] 3)
    go_wp2
    go_ret2
    exact givesIB_none hown0 hU1.size hww
  · obtain rfl : n = k := by rw [← hX.1, ints_len, h.len]
    rw [umbOf_ok h]
    go_enter Tryz.func8, Tryz.ntmps8
    go_wp2_with fail
    refine (specIsGraph_is (hX.up (by go_grown)) hn h.is).mono ?_
    rintro e w1 ⟨rfl, hb1⟩
    have hU1 : Up w w1 := Up.then_ (by go_grown) hb1
    replace hX := hX.up hU1
    have hblk := (Blk.new w 26 #[.int .i64 n, .slice A n c]).up hb1
    have hyb := hblk.two
    have hlb := hblk.lt
    have hown0 := OwnI.made (base := w1.heap.size) w1 (Nat.le_refl _)
    have hs1 := hU1.size
    go_wp2_with fail
    refine (l12Search_any n c A Q h w1.heap.size n [] ⟨w1.heap.size, 0, none⟩ 0 _ (by simp) (by simp) hown0 (by simp) (hX.alloc _)).mono ?_
    rintro e w2 ⟨A2, c2, rfl, hown2, hb2⟩
    have hU2 : Up w1 w2 := Up.then_ (by go_grown) hb2
    go_wp2
    go_ret2
    refine GivesIB.up (w := w1) ?_ hU1
    have e := ints_len ((srch (umb Q) yes n n []).getD [])
    exact ⟨A2, c2, by rw [optL, e]; rfl, hown2.cast e.symm rfl, hU2⟩
set_option maxRecDepth 100000 in
set_option maxHeartbeats 2000000 in
theorem umbFirst_any (N : Int) (A : Option Addr) (n c bG2 : Nat) (X : List Int) (w : World) (hX : RI w A n X) (hn : n ≤ 9223372036854775807) (hG : Blk w bG2 26 #[.int .i64 N, .slice A n c]) :
    Calls Tryz.prog 63 #[.agg #[.int .i64 N, .slice A n c], .int .i64 N, .func (.func 64) #[] #[.pointer (some ⟨bG2, 0, none⟩)], .func (.func 66) #[] #[]] w (GivesIB (optL (umbOf N X)) (umbOf N X).isSome w) := by
  have hnq := neq_nil
  rcases isGraph_cases N X with hg | ⟨k, Q, rfl, rfl, h⟩
  · have Hg := Lib.hid hg
    rw [umbOf_no hg]
    clear hg
    go_enter Tryz.func63, Tryz.ntmps63
    go_wp2_with fail
    refine (implIsGraph_is (hX.up (by go_grown)) hn Hg.out).mono ?_
    rintro e w1 ⟨rfl, hb1⟩
    have hU1 : Up w w1 := Up.then_ (by go_grown) hb1
    go_wp2
    go_ret2
    exact givesIB_none (OwnI.nil_ _ _) (Nat.le_refl _) hU1
  · obtain rfl : n = k := by rw [← hX.1, ints_len, h.len]
    rw [umbOf_ok h]
    go_enter Tryz.func63, Tryz.ntmps63
    go_wp2_with fail
    obtain ⟨W0, hW0⟩ : ∃ W0, W0 = (((((w.alloc (.cells #[.int .i64 n, .slice A n c] 26)).alloc (.cells #[.int .i64 n] 3)).alloc (.cells #[.func (.func 64) #[] #[.pointer (some ⟨bG2, 0, none⟩)]] 61)).alloc (.cells #[.func (.func 66) #[] #[]] 61)).alloc (.cells #[.func (.func 124) #[] #[.pointer (some ⟨w.heap.size + 1, 0, none⟩), .pointer (some ⟨w.heap.size + 1 + 1 + 1, 0, none⟩), .pointer (some ⟨w.heap.size, 0, none⟩), .pointer (some ⟨w.heap.size + 1 + 1, 0, none⟩), .pointer (some ⟨w.heap.size + 1 + 1 + 1 + 1, 0, none⟩)]] 79)) := ⟨_, rfl⟩
    have hbG : Blk W0 (w.heap.size) 26 #[.int .i64 n, .slice A n c] := by rw [hW0]; exact (Blk.new_at (w := w) (t := 26) (cs := #[.int .i64 n, .slice A n c]) (g := w.heap.size) (by simp)).up (by go_grown)
    have hbN : Blk W0 (w.heap.size + 1) 3 #[.int .i64 n] := by rw [hW0]; exact (Blk.new_at (w := (w.alloc (.cells #[.int .i64 n, .slice A n c] 26))) (t := 3) (cs := #[.int .i64 n]) (g := w.heap.size + 1) (by simp)).up (by go_grown)
    have hbM : Blk W0 (w.heap.size + 1 + 1) 61 #[.func (.func 64) #[] #[.pointer (some ⟨bG2, 0, none⟩)]] := by rw [hW0]; exact (Blk.new_at (w := ((w.alloc (.cells #[.int .i64 n, .slice A n c] 26)).alloc (.cells #[.int .i64 n] 3))) (t := 61) (cs := #[.func (.func 64) #[] #[.pointer (some ⟨bG2, 0, none⟩)]]) (g := w.heap.size + 1 + 1) (by simp)).up (by go_grown)
    have hbH : Blk W0 (w.heap.size + 1 + 1 + 1) 61 #[.func (.func 66) #[] #[]] := by rw [hW0]; exact (Blk.new_at (w := (((w.alloc (.cells #[.int .i64 n, .slice A n c] 26)).alloc (.cells #[.int .i64 n] 3)).alloc (.cells #[.func (.func 64) #[] #[.pointer (some ⟨bG2, 0, none⟩)]] 61))) (t := 61) (cs := #[.func (.func 66) #[] #[]]) (g := w.heap.size + 1 + 1 + 1) (by simp)).up (by go_grown)
    have hbS : Blk W0 (w.heap.size + 1 + 1 + 1 + 1) 79 #[.func (.func 124) #[] #[.pointer (some ⟨w.heap.size + 1, 0, none⟩), .pointer (some ⟨w.heap.size + 1 + 1 + 1, 0, none⟩), .pointer (some ⟨w.heap.size, 0, none⟩), .pointer (some ⟨w.heap.size + 1 + 1, 0, none⟩), .pointer (some ⟨w.heap.size + 1 + 1 + 1 + 1, 0, none⟩)]] := by rw [hW0]; exact (Blk.new_at (w := ((((w.alloc (.cells #[.int .i64 n, .slice A n c] 26)).alloc (.cells #[.int .i64 n] 3)).alloc (.cells #[.func (.func 64) #[] #[.pointer (some ⟨bG2, 0, none⟩)]] 61)).alloc (.cells #[.func (.func 66) #[] #[]] 61))) (t := 79) (cs := #[.func (.func 124) #[] #[.pointer (some ⟨w.heap.size + 1, 0, none⟩), .pointer (some ⟨w.heap.size + 1 + 1 + 1, 0, none⟩), .pointer (some ⟨w.heap.size, 0, none⟩), .pointer (some ⟨w.heap.size + 1 + 1, 0, none⟩), .pointer (some ⟨w.heap.size + 1 + 1 + 1 + 1, 0, none⟩)]]) (g := w.heap.size + 1 + 1 + 1 + 1) (by simp)).up (by go_grown)
    have hU0 : Up w W0 := by rw [hW0]; go_grown
    rw [← hW0]
    clear hW0
    have hbx : UmbBx W0 A n c (w.heap.size + 1) (w.heap.size + 1 + 1 + 1) w.heap.size (w.heap.size + 1 + 1) (w.heap.size + 1 + 1 + 1 + 1) bG2 := ⟨⟨hbN, hbH⟩, ⟨hbG, hbM⟩, hbS, hG.up hU0⟩
    clear hbG hbN hbM hbH hbS
    refine (implIsGraph_is (hX.up hU0) hn h.is).mono ?_
    rintro e w1 ⟨rfl, hb1⟩
    have hU1 := Up.then_ hU0 hb1
    replace hbx := hbx.up hb1
    have hcs := hbx.cells
    go_wp2_with fail
    refine (umbSearch_any n c _ _ _ _ _ bG2 A Q h n [] none 0 _ (by simp) (by simp) RI.nil_ (fun _ => rfl) (by simp) (by omega) (hX.up hU1) hbx).mono ?_
    rintro e w2 ⟨hg2, hb2⟩
    have hU2 := Up.then_ hU1 hb2
    rcases hsr : srch (umb Q) yes n n [] with _ | r
    · rw [hsr] at hg2
      have HSr := Lib.hid hsr
      clear hsr
      obtain rfl := hg2
      go_wp2
      go_ret2
      rw [HSr.out]
      exact givesIB_none (OwnI.nil_ _ _) (Nat.le_refl _) hU2
    · rw [hsr] at hg2
      have HSr := Lib.hid hsr
      clear hsr
      obtain ⟨g5, c5, rfl, hown5⟩ := hg2
      go_wp2
      go_ret2
      rw [HSr.out]
      exact givesIB_some hown5 hU1.size hU2
set_option maxRecDepth 100000 in
set_option maxHeartbeats 1000000 in
theorem implUmbrellaOf_any (N : Int) (A : Option Addr) (n c : Nat) (X : List Int) (w : World) (hX : RI w A n X) (hn : n ≤ 9223372036854775807) :
    Calls Tryz.prog 7 #[.agg #[.int .i64 N, .slice A n c]] w (GivesIB (optL (umbOf N X)) (umbOf N X).isSome w) := by
  go_enter Tryz.func7, Tryz.ntmps7
  go_wp2_with fail
  refine (umbFirst_any N A n c w.heap.size X _ (hX.alloc _) hn (Blk.new _ _ _)).mono ?_
  rintro e w1 ⟨A1, c1, rfl, hown, hb1⟩
  have hU1 : Up w w1 := Up.then_ (by go_grown) hb1
  go_wp2
  go_ret2
  exact ⟨A1, c1, rfl, hown.more (by simp), hU1⟩
set_option maxRecDepth 100000 in
theorem implIsProper_any (N : Int) (A : Option Addr) (n c : Nat) (X : List Int) (w : World) (hX : RI w A n X) (hn : n ≤ 9223372036854775807) :
    Calls Tryz.prog 15 #[.agg #[.int .i64 N, .slice A n c]] w fun e w' => e = .returned (.bool (umbOf N X).isSome) ∧ Below w.heap.size w w' := by
  go_enter Tryz.func15, Tryz.ntmps15
  go_wp2_with fail
  refine (implUmbrellaOf_any N A n c X _ (hX.up (by go_grown)) hn).mono ?_
  rintro e w1 ⟨A1, c1, rfl, hown, hb1⟩
  have hU1 : Up w w1 := Up.then_ (by go_grown) hb1
  go_wp2
  go_ret
  exact ⟨rfl, hU1⟩
end Go.Proofs.YthncdjcmlpiebaaGreat
