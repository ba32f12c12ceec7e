/- Walks of chapter 8: minimal separators. -/
import Derived.Test.YtcaoelihmkbedaaW3d
import Derived.Test.YtcaoelihmkbedaaPure8b
namespace Go.Proofs.Ytcaoelihmkbedaa
open Go.RowKit
theorem rest_val {n s : Nat} (h7 : n ≤ 7) (hs : s < 128) : bits .andNot .i64 ((p2 n - 1 : Nat) : Int) (s : Int) = ((restOf n s : Nat) : Int) := i64_dif7 (by have := p2_le h7; omega) hs
theorem mem_at {l : List Nat} {j : Nat} (h : j < l.length) : nb l j ∈ l := by rw [nb]; simp [List.getD, List.getElem?_eq_getElem h]
theorem part_in {Q : List Nat} {n s j : Nat} (h7 : n ≤ 7) (h : j < (partsOf Q n (restOf n s)).length) : sub (nb (partsOf Q n (restOf n s)) j) (restOf n s) :=
  mem_partsK (fun _ hi => hi) (Nat.lt_of_lt_of_le rest_lt (Nat.pow_le_pow_right (n := 2) (by omega) h7)) (mem_at h)
theorem partsK_len (Q : List Nat) (n S : Nat) : ∀ f L, (partsK Q n S f L).length ≤ f
  | 0, _ => Nat.le_refl _
  | f + 1, L => by
    rw [partsK]
    split
    · simp
    · have := partsK_len Q n S f (dif L (part Q n S (low L)))
      simp; omega
theorem partsOf_len {n S : Nat} {Q : List Nat} (h : GOk n Q) (hS : S < 2 ^ n) : (partsOf Q n S).length ≤ 128 := Nat.le_trans (partsK_len Q n S S S) (Nat.le_of_lt (h.n7 hS))
set_option maxRecDepth 100000 in
set_option maxHeartbeats 1000000 in
theorem implIsMinimalSeparator_ok (A : Option Addr) (n c s : Nat) (Q : List Nat) (w : World) (hX : RI w A n (ints Q)) (h : GOk n Q) (hs : s < 2 ^ n) :
    Calls Try.prog 48 #[.agg #[.int .i64 n, .slice A n c], .int .i64 s] w fun e w' => e = .returned (.bool (minSep Q n s)) ∧ Below w.heap.size w w' := by
  have hs7 := h.n7 hs
  have hn7 := h.le
  have hq := rest_val hn7 hs7
  have hr2 := rest_lt (n := n) (s := s)
  have hin := fun j hj => part_in (Q := Q) (n := n) (s := s) (j := j) hn7 hj
  obtain ⟨q, hqq⟩ : ∃ q, q = restOf n s := ⟨_, rfl⟩
  have HM := Lib.hid (show minSep Q n s = decide (2 ≤ full Q s (partsOf Q n q)) by rw [hqq]; rfl)
  rw [← hqq] at hq hr2 hin
  clear hqq
  have Hin := Lib.hid hin
  clear hin
  go_enter Try.func48, Try.ntmps48
  go_wp2_with fail
  refine (implIsSet_ok (hX.up (by go_grown)) h hs).mono ?_
  rintro e w1 ⟨rfl, hb1⟩
  have hw1 : Below w.heap.size w w1 := Up.then_ (by go_grown) hb1
  obtain ⟨hc1, hf1⟩ := bcell hb1
  have hz1 := hb1.size
  try simp only [World.size_alloc] at hz1
  try simp only [World.size_setCell] at hz1
  try simp only [World.size_alloc] at hz1
  try simp only [World.size_drew] at hz1
  have hl1_0 : w.heap.size < w1.heap.size := by omega
  have hblk0 := (Blk.new w 27 #[.int .i64 n, .slice A n c]).up hb1
  clear hc1 hf1
  obtain ⟨hx0, hx1⟩ := hblk0.two
  have hbl := hblk0.lt
  have hX1 := hX.up hw1
  go_wp2
  have hU0 : Up w1 w1.drew := (Up.refl _).drew
  go_region_held3 (fun w' => Up w1 w' ∧ ∀ b o, b < w1.heap.size → w'.cell? ⟨b, o, none⟩ = w1.cell? ⟨b, o, none⟩) (first | exact upk hU2 | exact upk hU1 | exact upk hU0)
    (first | (go_at_call 71; refine (all_any n A c n _ hn7).mono ?_; rintro e w2 ⟨rfl, hb2⟩; have hU1 := Up.then_ hU0 hb2) | (go_at_call 83; refine ((implParts_any A n c q Q _ (hX1.up hU1) h hr2).mono fun e w' hg => hg.out).mono ?_; rintro e w3 ⟨B, d, rfl, hown, hb3⟩; have hU2 := Up.then_ hU1 hb3))
  have hw3 := Up.then_ hw1 hU2
  have hblk3 := hblk0.up hU2
  have hri0 := hown.ri
  have hX3 := hX.up hw3
  obtain ⟨l, hl⟩ : ∃ l, l = partsOf Q n q := ⟨_, rfl⟩
  rw [← hl] at hri0 HM Hin
  rw [← hl]
  have hlen : l.length ≤ 128 := by rw [hl]; exact partsOf_len h hr2
  clear hown hl hx0 hx1 hbl hq
  go_wp2_with fail
  go_loopw [5, 19] (fun v i wr => ∃ k : Nat, k ≤ l.length ∧ i = .int .i64 k ∧ v = .int .i64 (full Q s (l.take k)) ∧ Below w3.heap.size w3 wr) (fun _ i _ => l.length - (intOf i).toNat)
  case atStart => exact ⟨0, Nat.zero_le _, rfl, rfl, Below.refl _ _⟩
  case round =>
    obtain ⟨k, hk, rfl, rfl, hb⟩ := hrel
    have hblk := hblk3.up hb
    have hwr := Up.then_ hw3 hb
    obtain ⟨hx0, hx1⟩ := hblk.two
    by_cases hlt : k < l.length
    · obtain ⟨b, rfl, hcb⟩ := (hri0.up hb).list_at hlt
      have hp2 := sub_lt2 (Hin.out k hlt) hr2
      have hf := full_take (Q := Q) (s := s) hlt
      have hfl := full_len Q s (l.take k)
      have hdf := i64_dif7 hs7 (h.n7 (nbrs_lt h (nb l k)))
      rw [List.length_take] at hfl
      go_wp2_with fail
      refine (implNeighbors_any A n c (nb l k) Q _ (hX3.up hb) h hp2).mono ?_
      rintro e w4 ⟨rfl, hb4⟩
      by_cases hd : dif s (nbrs Q (nb l k)) = 0
      · have HF := Lib.hid (hf.trans (by rw [if_pos (show sees Q s (l.getD k 0) = true from beq_iff_eq.2 hd)]))
        rw [hd] at hdf
        clear hd hf
        go_wp2
        go_roundw
        case rel => exact ⟨k + 1, by omega, by go_num, by rw [HF.out]; go_num, Up.then_ hb hb4⟩
        case measure => simp [intOf]; omega
      · have HF := Lib.hid (hf.trans (by rw [if_neg (show ¬ sees Q s (l.getD k 0) = true from fun e => hd (beq_iff_eq.1 e))]))
        have hne : (((dif s (nbrs Q (nb l k)) : Nat) : Int) == 0) = false := by rw [beq_eq_false_iff_ne]; omega
        clear hd hf
        go_wp2
        go_roundw
        case rel => exact ⟨k + 1, by omega, by go_num, by rw [HF.out]; rfl, Up.then_ hb hb4⟩
        case measure => simp [intOf]; omega
    · obtain rfl : k = l.length := by omega
      go_wp2
      go_ret
      exact ⟨ret_bool (by rw [HM.out]; exact decide_eq_decide.2 (by omega)), hwr⟩
end Go.Proofs.Ytcaoelihmkbedaa
