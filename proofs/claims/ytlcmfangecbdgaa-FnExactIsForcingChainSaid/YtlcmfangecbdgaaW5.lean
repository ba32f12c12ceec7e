/- Walks of chapter 5: vertices, labels, the lexicographic order of the program. -/
import Derived.Test.YtlcmfangecbdgaaSlf
import Derived.Test.YtlcmfangecbdgaaPure5
import Derived.Test.YtlcmfangecbdgaaW3
import Derived.Test.YtlcmfangecbdgaaW12i
namespace Go.Proofs.Ytlcmfangecbdgaa
open Go.RowKit
/-- All of a list are from 0 to N - 1. -/
def allIn (N : Int) (l : List Int) : Bool := l.all fun v => decide (0 ≤ v) && decide (v < N)
theorem allIn_out {N : Int} {l : List Int} {k : Nat} (hk : k < l.length) (h : ¬ (0 ≤ l.getD k 0 ∧ l.getD k 0 < N)) : allIn N l = false := by
  rw [← Bool.not_eq_true, allIn, List.all_eq_true]
  intro e
  have := e _ (List.getElem_mem hk)
  rw [Bool.and_eq_true, decide_eq_true_eq, decide_eq_true_eq] at this
  exact h (by simpa [List.getD, List.getElem?_eq_getElem hk] using this)
theorem allIn_yes {N : Int} {l : List Int} (h : ∀ k, k < l.length → 0 ≤ l.getD k 0 ∧ l.getD k 0 < N) : allIn N l = true := by
  rw [allIn, List.all_eq_true]
  intro v hv
  obtain ⟨k, hk, rfl⟩ := List.mem_iff_getElem.1 hv
  have := h k hk
  rw [Bool.and_eq_true, decide_eq_true_eq, decide_eq_true_eq]
  simpa [List.getD, List.getElem?_eq_getElem hk] using this
set_option maxRecDepth 100000 in
set_option maxHeartbeats 1000000 in
theorem isVertex_any (N : Int) (A B : Option Addr) (n c m d : Nat) (X l : List Int) (w : World) (hX : RI w A n X) (hL : RI w B m l) (hn : n ≤ 9223372036854775807) (hm : m ≤ 9223372036854775807) :
    Calls Try.prog 54 #[.agg #[.int .i64 N, .slice A n c], .slice B m d] w fun e w' => e = .returned (.bool (isGraph N X && allIn N l)) ∧ Below w.heap.size w w' := by
  have HL := Lib.hid hL.1
  have hbk := Blk.new w 27 #[.int .i64 N, .slice A n c]
  have hyb := hbk.two
  have hlb := hbk.lt
  have hU : Up w (w.alloc (.cells #[.int .i64 N, .slice A n c] 27)) := by go_grown
  rcases Bool.eq_false_or_eq_true (isGraph N X) with hg | hg
  · obtain ⟨k, Q, rfl, rfl, h⟩ := isGraph_ok hg
    have H1 := Lib.hid hg
    have Hno := Lib.hid fun k' (hk : k' < l.length) (h : ¬ (0 ≤ l.getD k' 0 ∧ l.getD k' 0 < (k : Int))) => allIn_out hk h
    have Hyes := Lib.hid (allIn_yes (N := (k : Int)) (l := l))
    have h1 := h.pos
    have h7 := h.le
    obtain ⟨b, hb⟩ : ∃ b, b = allIn (k : Int) l := ⟨_, rfl⟩
    rw [hg, Bool.true_and, ← hb]
    have Hb := Lib.hid hb
    have hsub : wrap64 ((k : Int) - 1) = (k : Int) - 1 := IntWalk.wrap64_in _ ⟨by omega, by omega⟩
    clear hg hb
    go_enter Try.func54, Try.ntmps54
    go_wp2_with fail
    go_loop [9] (fun s => ∃ i : Nat, i ≤ m ∧ s = .int .i64 i ∧ Hid (∀ j, j < i → 0 ≤ l.getD j 0 ∧ l.getD j 0 < (k : Int))) (fun s => m - (intOf s).toNat)
    case atStart => exact ⟨0, Nat.zero_le _, rfl, fun j hj => absurd hj (by omega)⟩
    case round =>
      obtain ⟨i, hi, rfl, hall⟩ := hrel
      by_cases hit : i < m
      · obtain ⟨ad, rfl, hla, hcl⟩ := hL.at_ hit
        have hcl2 := fun o => (World.cell?_alloc_lt w o (ad.add i) (by rw [block_of_add]; exact hla)).trans hcl
        obtain ⟨z, hz⟩ : ∃ z, z = l.getD i 0 := ⟨_, rfl⟩
        have Hz := Lib.hid hz
        rw [← hz] at hcl2
        clear hcl hz
        by_cases hin : 0 ≤ z ∧ z < (k : Int)
        · have hin2 : 0 ≤ z ∧ z ≤ (k : Int) - 1 := ⟨hin.1, by omega⟩
          go_wp2_with (go_at_call 60; refine ((within_yes _ _ _ _ hin2).mono fun _ _ h => And.intro h.1 h.2.symm).mono ?_; rintro e w' ⟨rfl, rfl⟩)
          go_round
          case rel => exact ⟨i + 1, by omega, by go_num, fun j hj => by
            rcases Nat.lt_succ_iff_lt_or_eq.1 hj with h' | rfl
            · exact hall.out j h'
            · rw [← Hz.out]; exact hin⟩
          case measure => simp [intOf]; omega
        · have hin2 : ¬ (0 ≤ z ∧ z ≤ (k : Int) - 1) := fun h => hin ⟨h.1, by omega⟩
          have HR := Lib.hid (show b = false by rw [Hb.out]; exact Hno.out i (by rw [HL.out]; exact hit) (by rw [← Hz.out]; exact hin))
          go_wp2_with (go_at_call 60; refine ((within_no _ _ _ _ hin2).mono fun _ _ h => And.intro h.1 h.2.symm).mono ?_; rintro e w' ⟨rfl, rfl⟩)
          go_ret
          exact ⟨ret_bool HR.out.symm, hU⟩
      · obtain rfl : i = m := by omega
        have HR := Lib.hid (show b = true by rw [Hb.out]; exact Hyes.out fun j hj => hall.out j (by rw [← HL.out]; exact hj))
        go_wp2_with fail
        refine (implIsGraph_is (hX.up (by go_grown)) hn H1.out).mono ?_
        rintro e w1 ⟨rfl, hb1⟩
        have hU1 : Up w w1 := Up.then_ (by go_grown) hb1
        go_wp2
        go_ret
        exact ⟨ret_bool HR.out.symm, hU1⟩
  · have H1 := Lib.hid hg
    rw [hg, Bool.false_and]
    clear hg
    go_enter Try.func54, Try.ntmps54
    go_wp2_with fail
    go_loop [9] (fun s => ∃ i : Nat, i ≤ m ∧ s = .int .i64 i) (fun s => m - (intOf s).toNat)
    case atStart => exact ⟨0, Nat.zero_le _, rfl⟩
    case round =>
      obtain ⟨i, hi, rfl⟩ := hrel
      by_cases hit : i < m
      · obtain ⟨ad, rfl, hla, hcl⟩ := hL.at_ hit
        have hcl2 := fun o => (World.cell?_alloc_lt w o (ad.add i) (by rw [block_of_add]; exact hla)).trans hcl
        obtain ⟨z, hz⟩ : ∃ z, z = l.getD i 0 := ⟨_, rfl⟩
        rw [← hz] at hcl2
        clear hcl hz
        obtain ⟨u, hu⟩ : ∃ u, u = wrap64 (N - 1) := ⟨_, rfl⟩
        replace hu := hu.symm
        by_cases hin : 0 ≤ z ∧ z ≤ u
        · go_wp2_with (go_at_call 60; refine ((within_yes _ _ _ _ hin).mono fun _ _ h => And.intro h.1 h.2.symm).mono ?_; rintro e w' ⟨rfl, rfl⟩)
          go_round
          case rel => exact ⟨i + 1, by omega, by go_num⟩
          case measure => simp [intOf]; omega
        · go_wp2_with (go_at_call 60; refine ((within_no _ _ _ _ hin).mono fun _ _ h => And.intro h.1 h.2.symm).mono ?_; rintro e w' ⟨rfl, rfl⟩)
          go_ret
          exact ⟨rfl, hU⟩
      · obtain rfl : i = m := by omega
        go_wp2_with fail
        refine (implIsGraph_is (hX.up (by go_grown)) hn H1.out).mono ?_
        rintro e w1 ⟨rfl, hb1⟩
        have hU1 : Up w w1 := Up.then_ (by go_grown) hb1
        go_wp2
        go_ret
        exact ⟨rfl, hU1⟩
theorem isVertex_is {N : Int} {A B : Option Addr} {n c m d : Nat} {X l : List Int} {w : World} {b : Bool} (hX : RI w A n X) (hL : RI w B m l) (hn : n ≤ 9223372036854775807) (hm : m ≤ 9223372036854775807) (h : (isGraph N X && allIn N l) = b) :
    Calls Try.prog 54 #[.agg #[.int .i64 N, .slice A n c], .slice B m d] w fun e w' => e = .returned (.bool b) ∧ Below w.heap.size w w' := by
  subst h; exact isVertex_any N A B n c m d X l w hX hL hn hm
end Go.Proofs.Ytlcmfangecbdgaa
