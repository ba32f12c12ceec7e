/- Walks of chapter 8: the reference's minimal separators. -/
import Derived.Test.YtcaoelihmkbedaaW8b
namespace Go.Proofs.Ytcaoelihmkbedaa
open Go.RowKit
theorem rest_sub {n s : Nat} (hs : s < 2 ^ n) : ((p2 n : Nat) : Int) - 1 - (s : Int) = ((restOf n s : Nat) : Int) := by
  have hsub : sub s (2 ^ n - 1) := fun i hi => by
    rw [Nat.testBit_two_pow_sub_one]
    simpa using bit_lt hs hi
  have := dif_add hsub
  have e : restOf n s = dif (2 ^ n - 1) s := rfl
  have e2 : p2 n = 2 ^ n := rfl
  have := Nat.two_pow_pos n
  omega
theorem upk1 {w w' : World} (h : Up w w') {b : Addr} {k : Nat} {u : Value} (hl : b.block < w.heap.size) (hu : w.cell? (b.add k) = some u) :
    Up w w' ∧ (∀ b o, b < w.heap.size → w'.cell? ⟨b, o, none⟩ = w.cell? ⟨b, o, none⟩) ∧ w'.cell? (b.add k) = some u :=
  ⟨h, fun _ _ hb => h.cell hb, (h.cell (by rw [block_of_add]; exact hl)).trans hu⟩
set_option maxRecDepth 100000 in
set_option maxHeartbeats 1000000 in
theorem specIsMinimalSeparator_ok (A : Option Addr) (n c s : Nat) (Q : List Nat) (w : World) (hX : RI w A n (ints Q)) (h : GOk n Q) (hs : s < 2 ^ n) :
    Calls Try.prog 47 #[.agg #[.int .i64 n, .slice A n c], .int .i64 s] w fun e w' => e = .returned (.bool (minSep Q n s)) ∧ Below w.heap.size w w' := by
  have hs7 := h.n7 hs
  have hn7 := h.le
  have hq := rest_sub hs
  have hp := shl_p2 (k := n) (by omega)
  have hp1 := p2_le hn7
  have hp2 := p2_pos n
  have hr2 := rest_lt (n := n) (s := s)
  have hin := fun j hj => part_in (Q := Q) (n := n) (s := s) (j := j) hn7 hj
  have href := fun p hp => sees_ref (Q := Q) (n := n) (s := s) (p := p) hp
  obtain ⟨q, hqq⟩ : ∃ q, q = restOf n s := ⟨_, rfl⟩
  have HM := Lib.hid (show minSep Q n s = decide (2 ≤ full Q s (partsOf Q n q)) by rw [hqq]; rfl)
  rw [← hqq] at hq hr2 hin href
  clear hqq
  have Hin := Lib.hid hin
  have Href := Lib.hid href
  clear hin href
  have hv1 : IntKind.i64.wrap ((2 : Int) ^ n) = ((p2 n : Nat) : Int) := by rw [IntWalk.i64_left]; exact hp
  have hv2 : IntKind.i64.wrap (((p2 n : Nat) : Int) - 1) = ((p2 n : Nat) : Int) - 1 := IntWalk.i64_in _ (by omega)
  have hv3 : IntKind.i64.wrap (((p2 n : Nat) : Int) - 1 - (s : Int)) = ((q : Nat) : Int) := by rw [hq]; exact IntWalk.i64_in _ (by have := h.n7 hr2; omega)
  clear hq
  go_enter Try.func47, Try.ntmps47
  go_wp2_with fail
  refine (specIsSet_ok (hX.up (by go_grown)) h hs).mono ?_
  rintro e w1 ⟨rfl, hb1⟩
  have hw1 : Below w.heap.size w w1 := Up.then_ (by go_grown) hb1
  obtain ⟨hc1, hf1⟩ := bcell hb1
  have hz1 := hb1.size
  try simp only [World.size_alloc] at hz1
  try simp only [World.size_setCell] at hz1
  try simp only [World.size_alloc] at hz1
  try simp only [World.size_drew] at hz1
  have hl1_0 : w.heap.size < w1.heap.size := by omega
  have hblk0 := (Blk.new w 27 #[.int .i64 n, .slice A n c]).up hb1
  clear hc1 hf1
  obtain ⟨hx0, hx1⟩ := hblk0.two
  have hbl := hblk0.lt
  have hX1 := hX.up hw1
  go_wp2
  have hU0 : Up w1 w1.drew := (Up.refl _).drew
  go_region_held3 (fun w' => Up w1 w' ∧ ∀ b o, b < w1.heap.size → w'.cell? ⟨b, o, none⟩ = w1.cell? ⟨b, o, none⟩) (first | exact upk hU1 | exact upk hU0)
    (first | (go_at_call 80; refine ((specPartsOf_any A n c q Q _ (hX1.up hU0) h hr2).mono fun e w' hg => hg.out).mono ?_; rintro e w3 ⟨B, d, rfl, hown, hb3⟩; have hU1 := Up.then_ hU0 hb3))
  have hw3 := Up.then_ hw1 hU1
  have hblk3 := hblk0.up hU1
  have hri0 := hown.ri
  have hX3 := hX.up hw3
  obtain ⟨l, hl⟩ : ∃ l, l = partsOf Q n q := ⟨_, rfl⟩
  rw [← hl] at hri0 HM Hin
  rw [← hl]
  have hlen : l.length ≤ 128 := by rw [hl]; exact partsOf_len h hr2
  clear hown hl hx0 hx1 hbl hv1 hv2 hv3 hp
  go_wp2_with fail
  go_loopw [6, 7] (fun v i wr => ∃ k : Nat, k ≤ l.length ∧ i = .int .i64 k ∧ v = .int .i64 (full Q s (l.take k)) ∧ Below w3.heap.size w3 wr) (fun _ i _ => l.length - (intOf i).toNat)
  case atStart => exact ⟨0, Nat.zero_le _, rfl, rfl, Below.refl _ _⟩
  case round =>
    obtain ⟨k, hk, rfl, rfl, hb⟩ := hrel
    have hblk := hblk3.up hb
    have hwr := Up.then_ hw3 hb
    obtain ⟨hx0, hx1⟩ := hblk.two
    have hbl := hblk.lt
    have hXr := hX3.up hb
    by_cases hlt : k < l.length
    · obtain ⟨b, rfl, hbl4, hcb0⟩ := (hri0.up hb).at_ hlt
      have hcb : wr.cell? (b.add k) = some (.int .i64 (nb l k)) := by rw [hcb0, ints_nb]
      clear hcb0
      have hp2' := sub_lt2 (Hin.out k hlt) hr2
      have hf := full_take (Q := Q) (s := s) hlt
      have hfl := full_len Q s (l.take k)
      have hand := i64_and7 (h.n7 (around_lt h hp2')) hs7
      rw [List.length_take] at hfl
      rcases Bool.eq_false_or_eq_true (sees Q s (nb l k)) with hd | hd
      · have HF := Lib.hid (hf.trans (by rw [if_pos (show sees Q s (l.getD k 0) = true from hd)]))
        have hh := (Href.out _ (Hin.out k hlt)).trans hd
        rw [beq_iff_eq.1 hh] at hand
        clear hh
        clear hf hd
        go_wp2
        have hU3 : Up wr wr.drew := (Up.refl _).drew
        go_region_held3 (fun w' => Up wr w' ∧ (∀ b o, b < wr.heap.size → w'.cell? ⟨b, o, none⟩ = wr.cell? ⟨b, o, none⟩) ∧ w'.cell? (b.add k) = some (.int .i64 (nb l k))) (first | exact upk1 hU4 hbl4 hcb | exact upk1 hU3 hbl4 hcb)
          (first | (go_at_call 81; refine (specAround_any A n c (nb l k) Q _ (hXr.up hU3) h hp2').mono ?_; rintro e w4 ⟨rfl, hb4⟩; have hU4 := Up.then_ hU3 hb4))
        go_wp2
        go_roundw
        case rel => exact ⟨k + 1, by omega, by go_num, by rw [HF.out]; go_num, Up.then_ hb hU4⟩
        case measure => simp [intOf]; omega
      · have HF := Lib.hid (hf.trans (by rw [if_neg (show ¬ sees Q s (l.getD k 0) = true from fun e => by rw [show sees Q s (l.getD k 0) = false from hd] at e; cases e)]))
        have hne : (((around Q (nb l k) &&& s : Nat) : Int) == (s : Int)) = false := by
          have hh := (Href.out _ (Hin.out k hlt)).trans hd
          rw [beq_eq_false_iff_ne] at hh ⊢
          omega
        clear hf hd
        go_wp2
        have hU3 : Up wr wr.drew := (Up.refl _).drew
        go_region_held3 (fun w' => Up wr w' ∧ (∀ b o, b < wr.heap.size → w'.cell? ⟨b, o, none⟩ = wr.cell? ⟨b, o, none⟩) ∧ w'.cell? (b.add k) = some (.int .i64 (nb l k))) (first | exact upk1 hU4 hbl4 hcb | exact upk1 hU3 hbl4 hcb)
          (first | (go_at_call 81; refine (specAround_any A n c (nb l k) Q _ (hXr.up hU3) h hp2').mono ?_; rintro e w4 ⟨rfl, hb4⟩; have hU4 := Up.then_ hU3 hb4))
        go_wp2
        go_roundw
        case rel => exact ⟨k + 1, by omega, by go_num, by rw [HF.out]; rfl, Up.then_ hb hU4⟩
        case measure => simp [intOf]; omega
    · obtain rfl : k = l.length := by omega
      go_wp2
      go_ret
      exact ⟨ret_bool (by rw [HM.out]; exact decide_eq_decide.2 (by omega)), hwr⟩
end Go.Proofs.Ytcaoelihmkbedaa
