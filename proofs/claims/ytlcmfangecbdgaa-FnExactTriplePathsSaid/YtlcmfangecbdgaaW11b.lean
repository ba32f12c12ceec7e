/- Walks of chapter 11: the path that avoids a vertex, the program's; triples. -/
import Derived.Test.YtlcmfangecbdgaaW11
import Derived.Deep.RegionHeld3
namespace Go.Proofs.Ytlcmfangecbdgaa
open Go.RowKit
theorem avoid_cases (N : Int) (X : List Int) (a b c : Int) : (avoidOf N X a b c = none ∧ (isGraph N X = false ∨ isGraph N X = true ∧ ¬ ((0 ≤ a ∧ a < N) ∧ (0 ≤ b ∧ b < N) ∧ 0 ≤ c ∧ c < N))) ∨
    ∃ (n i j k : Nat) (Q : List Nat), N = n ∧ X = ints Q ∧ a = i ∧ b = j ∧ c = k ∧ GOk n Q ∧ i < n ∧ j < n ∧ k < n := by
  rcases isGraph_cases N X with h | ⟨n, Q, rfl, rfl, h⟩
  · exact .inl ⟨avoidOf_no h, .inl h⟩
  · by_cases hs : (0 ≤ a ∧ a < (n : Int)) ∧ (0 ≤ b ∧ b < (n : Int)) ∧ 0 ≤ c ∧ c < (n : Int)
    · exact .inr ⟨n, a.toNat, b.toNat, c.toNat, Q, rfl, rfl, by omega, by omega, by omega, h, by omega, by omega, by omega⟩
    · exact .inl ⟨avoidOf_out hs, .inr ⟨h.is, hs⟩⟩
theorem allIn3 (N a b c : Int) : allIn N [a, b, c] = decide ((0 ≤ a ∧ a < N) ∧ (0 ≤ b ∧ b < N) ∧ 0 ≤ c ∧ c < N) := by
  rw [Bool.eq_iff_iff, decide_eq_true_eq]
  simp [allIn]
theorem lit3_ri {w : World} {g : Nat} (h : w.heap.size = g) (a b c : Int) : RI (w.alloc (.cells #[.int .i64 a, .int .i64 b, .int .i64 c] 3)) (some ⟨g, 0, none⟩) 3 [a, b, c] := by
  subst h
  exact (Blk.new w 3 #[.int .i64 a, .int .i64 b, .int .i64 c]).ri (xs := [a, b, c]) rfl
set_option maxRecDepth 100000 in
set_option maxHeartbeats 2000000 in
theorem implAvoidingPath_any (N a b c : Int) (A : Option Addr) (n d : Nat) (X : List Int) (w : World) (hX : RI w A n X) (hn : n ≤ 9223372036854775807) :
    Calls Try.prog 20 #[.agg #[.int .i64 N, .slice A n d], .int .i64 a, .int .i64 b, .int .i64 c] w (GivesIB (optL (avoidOf N X a b c)) (avoidOf N X a b c).isSome w) := by
  have hbk := Blk.new w 27 #[.int .i64 N, .slice A n d]
  have hl3 := lit3_ri (w := w.alloc (.cells #[.int .i64 N, .slice A n d] 27)) (g := w.heap.size + 1) (by simp) a b c
  have hbk2 := hbk.alloc (.cells #[.int .i64 a, .int .i64 b, .int .i64 c] 3)
  have hyb := hbk2.two
  have hU1 : Up w ((w.alloc (.cells #[.int .i64 N, .slice A n d] 27)).alloc (.cells #[.int .i64 a, .int .i64 b, .int .i64 c] 3)) := by go_grown
  rcases avoid_cases N X a b c with ⟨h0, hc⟩ | ⟨m, i, j, k, Q, rfl, rfl, rfl, rfl, rfl, h, hi, hj, hk⟩
  · have hv : (isGraph N X && allIn N [a, b, c]) = false := by
      rcases hc with e | ⟨e1, e2⟩
      · rw [e]; rfl
      · rw [e1, allIn3, decide_eq_false e2]; rfl
    have Hv := Lib.hid hv
    rw [h0]
    clear hv hc h0
    go_enter Try.func20, Try.ntmps20
    go_wp2_with (go_at_call 54; refine (isVertex_is (hX.up hU1) hl3 hn (by omega) Hv.out).mono ?_; rintro e w2 ⟨rfl, hb2⟩)
    go_ret2
    exact givesIB_none (OwnI.nil_ _ _) (Nat.le_refl _) (Up.then_ hU1 hb2)
  · obtain rfl : n = m := by rw [← hX.1, ints_len, h.len]
    have hv : (isGraph n (ints Q) && allIn n [(i : Int), (j : Int), (k : Int)]) = true := by rw [h.is, allIn3, decide_eq_true ⟨⟨by omega, by omega⟩, ⟨by omega, by omega⟩, by omega, by omega⟩]; rfl
    have Hv := Lib.hid hv
    rw [avoidOf_ok h hi hj hk]
    have h7 := h.le
    have hsh := shl_p2 (k := k) (by omega)
    have hshI : IntKind.i64.wrap ((2 : Int) ^ k) = ((p2 k : Nat) : Int) := by rw [IntWalk.i64_left]; exact hsh
    have hpk : p2 k < 128 := Nat.pow_lt_pow_right (by omega) (by omega : k < 7)
    have hpn := p2_le h7
    have hpp := p2_pos n
    have hd1 := i64_dif7 (a := p2 n - 1) (b := nb Q k) (by omega) (h.nb7 k)
    have hd7 : dif (p2 n - 1) (nb Q k) < 128 := Nat.lt_of_le_of_lt (dif_le _ _) (by omega)
    have hd2 := i64_dif7 (a := dif (p2 n - 1) (nb Q k)) (b := p2 k) hd7 hpk
    have HS := Lib.hid (show dif (dif (p2 n - 1) (nb Q k)) (p2 k) = awayS Q n k from rfl)
    have HSl := Lib.hid (awayS_lt Q n k)
    rw [HS.out] at hd2
    obtain ⟨S, hS⟩ : ∃ S, S = awayS Q n k := ⟨_, rfl⟩
    rw [← hS] at hd2 HSl ⊢
    obtain ⟨r, hr⟩ : ∃ r, r = nb Q k := ⟨_, rfl⟩
    rw [← hr] at hd1 hd2 hd7
    obtain ⟨D, hD⟩ : ∃ D, D = dif (p2 n - 1) r := ⟨_, rfl⟩
    rw [← hD] at hd1 hd2 hd7
    have Hr := Lib.hid hr
    clear hv HS hS hr hD hl3
    have hl3 := lit3_ri (w := w.alloc (.cells #[.int .i64 (n : Int), .slice A n d] 27)) (g := w.heap.size + 1) (by simp) (i : Int) (j : Int) (k : Int)
    obtain ⟨aX, rfl, _, _⟩ := hX.addr h.pos
    go_enter Try.func20, Try.ntmps20
    go_wp2_with (go_at_call 54; refine (isVertex_is (hX.up hU1) hl3 hn (by omega) Hv.out).mono ?_; rintro e w2 ⟨rfl, hb2⟩)
    have hU2 := Up.then_ hU1 hb2
    have hX2 := hX.up hU2
    have hbk3 := hbk2.up hb2
    have hyb3 := hbk3.two
    have hlb3 := hbk3.lt
    have hck := hX2.nbs hk
    rw [← Hr.out] at hck
    have habs : aX.block < w2.heap.size := by obtain ⟨_, e, h1, _⟩ := hX2.addr h.pos; injection e with e; subst e; exact h1
    clear hyb hl3
    go_wp2
    have hV0 : Up w2 w2.drew := (Up.refl _).drew
    go_region_held3 (fun w' => Up w2 w' ∧ (∀ b o, b < w2.heap.size → w'.cell? ⟨b, o, none⟩ = w2.cell? ⟨b, o, none⟩) ∧ w'.cell? (aX.add k) = some (.int .i64 (r : Nat))) (first | exact (by exact ⟨hV2, fun _ _ hb => hV2.cell hb, (hV2.cell (by first | assumption | (rw [block_of_add]; assumption))).trans (by assumption)⟩) | exact (by exact ⟨hV1, fun _ _ hb => hV1.cell hb, (hV1.cell (by first | assumption | (rw [block_of_add]; assumption))).trans (by assumption)⟩) | exact (by exact ⟨hV0, fun _ _ hb => hV0.cell hb, (hV0.cell (by first | assumption | (rw [block_of_add]; assumption))).trans (by assumption)⟩)) (first | (go_at_call 56; refine (all_any n (some aX) d n _ h7).mono ?_; rintro e w40 ⟨rfl, hb40⟩; have hV1 := Up.then_ hV0 hb40) | (go_at_call 55; refine (shortestWay_any (some aX) n d S i j Q _ (hX2.up hV1) h HSl.out hi hj).mono ?_; rintro e w41 ⟨A3, c3, rfl, hown3, hb41⟩; have hV2 := Up.then_ hV1 hb41))
    have hU4 := hV2
    go_wp2
    go_ret2
    exact ⟨A3, c3, rfl, hown3.more (Nat.le_trans hU2.size (by have := hb40.size; simpa using this)), Up.then_ hU2 hU4⟩
end Go.Proofs.Ytlcmfangecbdgaa
