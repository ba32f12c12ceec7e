/- Walks of chapters 4 and 5: lists of different vertices, orders. -/
import Derived.Test.YtnaoomchekhcgaaW3b
import Derived.Test.YtnaoomchekhcgaaW7c
import Derived.Test.YtnaoomchekhcgaaPure4
import Derived.Test.YtnaoomchekhcgaaPure2b
import Derived.Test.YtnaoomchekhcgaaCalm
namespace Go.Proofs.Ytnaoomchekhcgaa
open Go.RowKit
theorem RI.take {w : World} {A : Option Addr} {n k : Nat} {xs : List Int} (h : RI w A n xs) (hk : k ≤ n) : RI w A k (xs.take k) := by
  refine ⟨by rw [List.length_take, h.1]; omega, fun h0 => ?_⟩
  obtain ⟨ad, e, hc⟩ := h.2 (by omega)
  refine ⟨ad, e, fun j hj => ?_⟩
  rw [hc j (by omega)]
  simp [List.getD, hj]
def idxZ (xs : List Int) (v : Int) : Int := if v ∈ xs then (xs.idxOf v : Int) else -1
theorem idxZ_at {xs : List Int} {v : Int} {k : Nat} (hk : k < xs.length) (h : xs.getD k 0 = v) (hno : ∀ j, j < k → xs.getD j 0 ≠ v) : idxZ xs v = k := by
  have h1 : xs[k] = v := by simpa [List.getD, List.getElem?_eq_getElem hk] using h
  have hm : v ∈ xs := h1 ▸ List.getElem_mem hk
  rw [idxZ, if_pos hm]
  have hi := List.idxOf_lt_length_of_mem hm
  have hg : xs[xs.idxOf v] = v := List.getElem_idxOf hi
  rcases Nat.lt_trichotomy (xs.idxOf v) k with hlt | he | hlt
  · exact absurd (by simp [List.getD, List.getElem?_eq_getElem hi, hg]) (hno _ hlt)
  · rw [he]
  · have := List.not_of_lt_findIdx (p := fun x => x == v) (xs := xs) (i := k) hlt
    simp [h1] at this
theorem idxZ_none {xs : List Int} {v : Int} (h : ∀ j, j < xs.length → xs.getD j 0 ≠ v) : idxZ xs v = -1 := by
  rw [idxZ, if_neg]
  intro hm
  obtain ⟨j, hj, e⟩ := List.mem_iff_getElem.1 hm
  exact h j hj (by simp [List.getD, List.getElem?_eq_getElem hj, e])
theorem idxZ_nonneg (xs : List Int) (v : Int) : decide (0 ≤ idxZ xs v) = decide (v ∈ xs) := by
  rw [idxZ, decide_eq_decide]
  split
  · rename_i h; exact ⟨fun _ => h, fun _ => by omega⟩
  · rename_i h; exact ⟨fun h' => by omega, fun h' => absurd h' h⟩
set_option maxHeartbeats 1000000 in
theorem slIndex_any (A : Option Addr) (n c : Nat) (v : Int) (xs : List Int) (w : World) (hA : RI w A n xs) (hn : n ≤ 9223372036854775807) :
    Calls Try.prog 81 #[.slice A n c, .int .i64 v] w fun e w' => e = .returned (.int .i64 (idxZ xs v)) ∧ w = w' := by
  have HX := Lib.hid hA.1
  go_enter Try.func81, Try.ntmps81
  go_wp2
  go_loop [8] (fun i => ∃ k : Nat, k ≤ n ∧ i = .int .i64 k ∧ Hid (∀ j, j < k → xs.getD j 0 ≠ v)) (fun i => n - (intOf i).toNat)
  case atStart => exact ⟨0, Nat.zero_le _, rfl, fun j h => absurd h (by omega)⟩
  case round =>
    obtain ⟨k, hk, rfl, hno⟩ := hrel
    by_cases hlt : k < n
    · obtain ⟨a, rfl, _, hca⟩ := hA.at_ hlt
      by_cases e : xs.getD k 0 = v
      · have HR := Lib.hid (idxZ_at (by rw [HX.out]; exact hlt) e hno.out)
        have hd : (v == xs[k]?.getD 0) = true := by rw [beq_iff_eq]; exact e.symm
        clear e
        go_wp2
        go_ret
        exact ⟨ret_int HR.out.symm, rfl⟩
      · have hd : (v == xs[k]?.getD 0) = false := by rw [beq_eq_false_iff_ne]; exact fun h => e h.symm
        have He := Lib.hid e
        clear e
        go_wp2
        go_round
        case rel => exact ⟨k + 1, by omega, by go_num, fun j hj => by
          rcases Nat.lt_succ_iff_lt_or_eq.1 hj with h' | rfl
          · exact hno.out j h'
          · exact He.out⟩
        case measure => simp [intOf]; omega
    · obtain rfl : k = n := by omega
      have HR := Lib.hid (idxZ_none (xs := xs) (v := v) (by rw [HX.out]; exact hno.out))
      go_wp2
      go_ret
      exact ⟨ret_int HR.out.symm, rfl⟩
theorem slContains_any (A : Option Addr) (n c : Nat) (v : Int) (xs : List Int) (w : World) (hA : RI w A n xs) (hn : n ≤ 9223372036854775807) :
    Calls Try.prog 54 #[.slice A n c, .int .i64 v] w fun e w' => e = .returned (.bool (decide (v ∈ xs))) ∧ w = w' := by
  have HZ := Lib.hid (idxZ_nonneg xs v)
  go_enter Try.func54, Try.ntmps54
  go_wp2_with fail
  refine (slIndex_any A n c v xs _ hA hn).mono ?_
  rintro e w' ⟨rfl, rfl⟩
  go_wp2
  go_ret
  exact ⟨ret_bool HZ.out, rfl⟩
theorem slContains_is {A : Option Addr} {n c : Nat} {v : Int} {xs : List Int} {w : World} {b : Bool} (hA : RI w A n xs) (hn : n ≤ 9223372036854775807) (h : decide (v ∈ xs) = b) :
    Calls Try.prog 54 #[.slice A n c, .int .i64 v] w fun e w' => e = .returned (.bool b) ∧ w = w' := by
  subst h; exact slContains_any A n c v xs w hA hn