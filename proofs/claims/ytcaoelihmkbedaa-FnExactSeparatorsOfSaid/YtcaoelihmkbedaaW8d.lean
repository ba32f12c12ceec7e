/- Minimal separators: whatever the arguments. -/
import Derived.Test.YtcaoelihmkbedaaW8c
namespace Go.Proofs.Ytcaoelihmkbedaa
open Go.RowKit
def isMinSep (N : Int) (X : List Int) (s : Int) : Bool := isSet N X s && minSep (X.map Int.toNat) N.toNat s.toNat
theorem isMinSep_no {N : Int} {X : List Int} {s : Int} (h : isSet N X s = false) : isMinSep N X s = false := by rw [isMinSep, h]; rfl
theorem isMinSep_ok {n s : Nat} {Q : List Nat} (h : GOk n Q) (hs : s < 2 ^ n) : isMinSep n (ints Q) s = minSep Q n s := by
  rw [isMinSep, h.isSet hs, nats_ints, Int.toNat_natCast, Int.toNat_natCast]; rfl
theorem isSet_cases (N : Int) (X : List Int) (s : Int) : isSet N X s = false ∨ ∃ (k t : Nat) (Q : List Nat), N = k ∧ X = ints Q ∧ s = t ∧ GOk k Q ∧ t < 2 ^ k := by
  rcases Bool.eq_false_or_eq_true (isSet N X s) with h | h
  · refine .inr ?_
    rw [isSet, Bool.and_eq_true, Bool.and_eq_true, decide_eq_true_eq, decide_eq_true_eq] at h
    obtain ⟨⟨hg, h0⟩, h1⟩ := h
    obtain ⟨k, Q, rfl, rfl, hk⟩ := isGraph_ok hg
    rw [ints_len, hk.len] at h1
    exact ⟨k, s.toNat, Q, rfl, rfl, by omega, hk, by omega⟩
  · exact .inl h
theorem implIsMinimalSeparator_any (N : Int) (A : Option Addr) (n c : Nat) (X : List Int) (s : Int) (w : World) (hX : RI w A n X) (hn : n ≤ 9223372036854775807) :
    Calls Try.prog 48 #[.agg #[.int .i64 N, .slice A n c], .int .i64 s] w fun e w' => e = .returned (.bool (isMinSep N X s)) ∧ Below w.heap.size w w' := by
  rcases isSet_cases N X s with hg | ⟨k, t, Q, rfl, rfl, rfl, h, ht⟩
  · have Hg := Lib.hid hg
    have Hr := Lib.hid (isMinSep_no hg)
    clear hg
    go_enter Try.func48, Try.ntmps48
    go_wp2_with fail
    refine (implIsSet_any N A n c X s _ (hX.up (by go_grown)) hn).mono ?_
    rintro e w1 ⟨rfl, hb1⟩
    have hw1 : Below w.heap.size w w1 := Up.then_ (by go_grown) hb1
    obtain ⟨hc1, hf1⟩ := bcell hb1
    have hz1 := hb1.size
    try simp only [World.size_alloc] at hz1
    try simp only [World.size_setCell] at hz1
    try simp only [World.size_alloc] at hz1
    try simp only [World.size_drew] at hz1
    have hl1_0 : w.heap.size < w1.heap.size := by omega
    rw [Hg.out]
    go_wp2
    go_ret
    exact ⟨ret_bool Hr.out.symm, by go_grown⟩
  · obtain rfl : n = k := by rw [← hX.1, ints_len, h.len]
    rw [isMinSep_ok h ht]
    exact implIsMinimalSeparator_ok A n c t Q w hX h ht
theorem specIsMinimalSeparator_any (N : Int) (A : Option Addr) (n c : Nat) (X : List Int) (s : Int) (w : World) (hX : RI w A n X) (hn : n ≤ 9223372036854775807) :
    Calls Try.prog 47 #[.agg #[.int .i64 N, .slice A n c], .int .i64 s] w fun e w' => e = .returned (.bool (isMinSep N X s)) ∧ Below w.heap.size w w' := by
  rcases isSet_cases N X s with hg | ⟨k, t, Q, rfl, rfl, rfl, h, ht⟩
  · have Hg := Lib.hid hg
    have Hr := Lib.hid (isMinSep_no hg)
    clear hg
    go_enter Try.func47, Try.ntmps47
    go_wp2_with fail
    refine (specIsSet_any N A n c X s _ (hX.up (by go_grown)) hn).mono ?_
    rintro e w1 ⟨rfl, hb1⟩
    have hw1 : Below w.heap.size w w1 := Up.then_ (by go_grown) hb1
    obtain ⟨hc1, hf1⟩ := bcell hb1
    have hz1 := hb1.size
    try simp only [World.size_alloc] at hz1
    try simp only [World.size_setCell] at hz1
    try simp only [World.size_alloc] at hz1
    try simp only [World.size_drew] at hz1
    have hl1_0 : w.heap.size < w1.heap.size := by omega
    rw [Hg.out]
    go_wp2
    go_ret
    exact ⟨ret_bool Hr.out.symm, by go_grown⟩
  · obtain rfl : n = k := by rw [← hX.1, ints_len, h.len]
    rw [isMinSep_ok h ht]
    exact specIsMinimalSeparator_ok A n c t Q w hX h ht
end Go.Proofs.Ytcaoelihmkbedaa
