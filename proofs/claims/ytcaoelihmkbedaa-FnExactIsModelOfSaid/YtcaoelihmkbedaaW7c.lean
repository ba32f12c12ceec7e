/- Walks of chapter 7: colorings; an edge read by the reference. -/
import Derived.Test.YtcaoelihmkbedaaW7
namespace Go.Proofs.Ytcaoelihmkbedaa
open Go.RowKit

def colPair (Q : List Nat) (C : List Int) (v x : Nat) : Bool := (nb Q v).testBit x && (C.getD x 0 == C.getD v 0)
def coloring (n : Nat) (Q : List Nat) (C : List Int) : Bool :=
  decide (∀ v, v < n → (0 ≤ C.getD v 0 ∧ C.getD v 0 ≤ 6) ∧ ∀ x, x < v → colPair Q C v x = false)
def isColoring (N : Int) (X C : List Int) : Bool := isGraph N X && (decide (C.length = X.length) && coloring X.length (X.map Int.toNat) C)
theorem isColoring_no {N : Int} {X C : List Int} (h : isGraph N X = false) : isColoring N X C = false := by rw [isColoring, h]; rfl
theorem isColoring_len {N : Int} {X C : List Int} (h : C.length ≠ X.length) : isColoring N X C = false := by
  rw [isColoring, decide_eq_false h]; simp
theorem nats_of (Q : List Nat) : (ints Q).map Int.toNat = Q := by simp [ints, List.map_map, Function.comp_def]
theorem isColoring_ok {n : Nat} {Q : List Nat} {C : List Int} (h : GOk n Q) (hl : C.length = n) : isColoring n (ints Q) C = coloring n Q C := by
  rw [isColoring, h.is, nats_of, ints_len, h.len, hl]; simp
theorem coloring_all {n : Nat} {Q : List Nat} {C : List Int} (h : ∀ v, v < n → (0 ≤ C.getD v 0 ∧ C.getD v 0 ≤ 6) ∧ ∀ x, x < v → colPair Q C v x = false) : coloring n Q C = true := decide_eq_true h
theorem coloring_out {n v : Nat} {Q : List Nat} {C : List Int} (hv : v < n) (h : ¬ (0 ≤ C.getD v 0 ∧ C.getD v 0 ≤ 6)) : coloring n Q C = false := decide_eq_false fun k => h (k v hv).1
theorem coloring_pair {n v x : Nat} {Q : List Nat} {C : List Int} (hv : v < n) (hx : x < v) (h : colPair Q C v x = true) : coloring n Q C = false :=
  decide_eq_false fun k => by have := (k v hv).2 x hx; rw [h] at this; cases this

theorem upk3 {w w' : World} (h : Up w w') {b : Addr} {j k : Nat} {u v : Value} (hl : b.block < w.heap.size) (hu : w.cell? (b.add k) = some u) (hv : w.cell? (b.add j) = some v) :
    Up w w' ∧ (∀ b o, b < w.heap.size → w'.cell? ⟨b, o, none⟩ = w.cell? ⟨b, o, none⟩) ∧ w'.cell? (b.add k) = some u ∧ w'.cell? (b.add j) = some v :=
  ⟨h, fun _ _ hb => h.cell hb, (h.cell (by rw [block_of_add]; exact hl)).trans hu, (h.cell (by rw [block_of_add]; exact hl)).trans hv⟩
theorem l2Edge_is {N : Int} {A : Option Addr} {n c v x : Nat} {Q : List Nat} {w : World} {b : Bool} (hX : RI w A n (ints Q)) (h : GOk n Q) (hv : v < n) (hx : x < n) (hb : (nb Q v).testBit x = b) :
    Calls Try.prog 59 #[.agg #[.int .i64 N, .slice A n c], .int .i64 v, .int .i64 x] w fun e w' => e = .returned (.bool b) ∧ Below w.heap.size w w' := by
  subst hb
  have hn7 := h.le
  obtain ⟨a, rfl, hca⟩ := hX.nb_after hv
  have hr := h.nb7 v
  have hbit := bit_one (nb Q v) x (by omega)
  go_enter Try.func59, Try.ntmps59
  go_wp2
  go_ret
  exact ⟨rfl, by go_grown⟩

set_option maxHeartbeats 2000000 in
theorem implIsColoring_any (N : Int) (A B : Option Addr) (n m c d : Nat) (X C : List Int) (w : World) (hX : RI w A n X) (hC : RI w B m C) (hn : n ≤ 9223372036854775807) (hm : m ≤ 9223372036854775807) :
    Calls Try.prog 19 #[.agg #[.int .i64 N, .slice A n c], .slice B m d] w fun e w' => e = .returned (.bool (isColoring N X C)) ∧ Below w.heap.size w w' := by
  have hXX := Lib.hid hX.1
  have hCC := Lib.hid hC.1
  rcases isGraph_cases N X with hg | ⟨k, Q, rfl, rfl, h⟩
  · have Hg := Lib.hid hg
    have Hr := Lib.hid (isColoring_no (C := C) hg)
    clear hg
    go_enter Try.func19, Try.ntmps19
    go_wp2_with fail
    refine (implIsGraph_is (hX.up (by go_grown)) hn Hg.out).mono ?_
    rintro e w1 ⟨rfl, hb1⟩
    have hw1 : Below w.heap.size w w1 := Up.then_ (by go_grown) hb1
    obtain ⟨hc1, hf1⟩ := bcell hb1
    have hz1 := hb1.size
    try simp only [World.size_alloc] at hz1
    try simp only [World.size_setCell] at hz1
    try simp only [World.size_alloc] at hz1
    try simp only [World.size_drew] at hz1
    have hl1_0 : w.heap.size < w1.heap.size := by omega
    go_wp2
    go_ret
    exact ⟨ret_bool Hr.out.symm, by go_grown⟩
  · have hn7 := h.le
    obtain rfl : n = k := by have := hXX.out; rw [ints_len, h.len] at this; omega
    by_cases hmn : m = n
    · subst hmn
      have HR := Lib.hid (isColoring_ok h hCC.out)
      go_enter Try.func19, Try.ntmps19
      go_wp2_with fail
      refine (implIsGraph_is (hX.up (by go_grown)) hn h.is).mono ?_
      rintro e w1 ⟨rfl, hb1⟩
      have hw1 : Below w.heap.size w w1 := Up.then_ (by go_grown) hb1
      obtain ⟨hc1, hf1⟩ := bcell hb1
      have hz1 := hb1.size
      try simp only [World.size_alloc] at hz1
      try simp only [World.size_setCell] at hz1
      try simp only [World.size_alloc] at hz1
      try simp only [World.size_drew] at hz1
      have hl1_0 : w.heap.size < w1.heap.size := by omega
      have hblk0 := (Blk.new w 27 #[.int .i64 m, .slice A m c]).up hb1
      clear hc1 hf1
      obtain ⟨hx0, hx1⟩ := hblk0.two
      go_wp2_with fail
      go_loopw [20] (fun i wr => ∃ k : Nat, k ≤ m ∧ i = .int .i64 k ∧ Below w1.heap.size w1 wr ∧ Hid (∀ v, v < k → (0 ≤ C.getD v 0 ∧ C.getD v 0 ≤ 6) ∧ ∀ x, x < v → colPair Q C v x = false)) (fun i _ => m - (intOf i).toNat)
      case atStart => exact ⟨0, Nat.zero_le _, rfl, Below.refl _ _, fun j h => absurd h (by omega)⟩
      case round =>
        obtain ⟨k, hk, rfl, hb, hall⟩ := hrel
        obtain ⟨wo, rfl⟩ : ∃ wo : World, wo = wr := ⟨_, rfl⟩
        clear hx0 hx1
        have hblk := hblk0.up hb
        have hwr := Up.then_ hw1 hb
        obtain ⟨hx0, hx1⟩ := hblk.two
        by_cases hlt : k < m
        · obtain ⟨b, rfl, _, hcb⟩ := (hC.up hwr).at_ hlt
          by_cases hin : 0 ≤ C.getD k 0 ∧ C.getD k 0 ≤ 6
          · have HIn := Lib.hid hin
            have hin' : 0 ≤ C[k]?.getD 0 ∧ C[k]?.getD 0 ≤ 6 := hin
            clear hin
            go_wp2_with (go_at_call 61; refine (within_yes _ _ _ _ hin').mono ?_; rintro e w' ⟨rfl, rfl⟩)
            go_loopw [29] (fun s wr => ∃ j : Nat, j ≤ k ∧ s = .int .i64 j ∧ Below wo.heap.size wo wr ∧ Hid (∀ x, x < j → colPair Q C k x = false)) (fun s _ => k - (intOf s).toNat)
            case atStart => exact ⟨0, Nat.zero_le _, rfl, Below.refl _ _, fun j h => absurd h (by omega)⟩
            case round =>
              obtain ⟨j, hj, rfl, hb2, hall2⟩ := hrel
              clear hx0 hx1
              have hblk2 := hblk.up hb2
              have hwr2 := Up.then_ hwr hb2
              obtain ⟨hx0, hx1⟩ := hblk2.two
              by_cases hjt : j < k
              · obtain ⟨a, rfl, hca⟩ := (hX.up hwr2).nb_at hlt
                obtain ⟨b', e', _, hcj⟩ := (hC.up hwr2).at_ (show j < m by omega)
                injection e' with e'
                subst e'
                have hr := h.nb7 k
                rcases Bool.eq_false_or_eq_true ((nb Q k).testBit j) with e1 | e1
                · have H1 := Lib.hid e1
                  clear e1
                  rcases Bool.eq_false_or_eq_true (C[j]?.getD 0 == C[k]?.getD 0) with e2 | e2
                  · have Hno := Lib.hid (coloring_pair (n := m) (Q := Q) (C := C) hlt hjt (by rw [colPair, H1.out]; simpa using e2))
                    go_wp2_with (go_at_call 62; refine (has_is (by omega) (by omega) H1.out).mono ?_; rintro e w' ⟨rfl, rfl⟩)
                    go_ret
                    exact ⟨ret_bool (HR.out.trans Hno.out).symm, hwr2⟩
                  · have Hok := Lib.hid (show colPair Q C k j = false by rw [colPair, H1.out]; simpa using e2)
                    go_wp2_with (go_at_call 62; refine (has_is (by omega) (by omega) H1.out).mono ?_; rintro e w' ⟨rfl, rfl⟩)
                    go_roundw
                    case rel => exact ⟨j + 1, by omega, by go_num, hb2, fun x hx => by
                      rcases Nat.lt_succ_iff_lt_or_eq.1 hx with h' | rfl
                      · exact hall2.out x h'
                      · exact Hok.out⟩
                    case measure => simp [intOf]; omega
                · have H1 := Lib.hid e1
                  clear e1
                  have Hok := Lib.hid (show colPair Q C k j = false by rw [colPair, H1.out]; rfl)
                  go_wp2_with (go_at_call 62; refine (has_is (by omega) (by omega) H1.out).mono ?_; rintro e w' ⟨rfl, rfl⟩)
                  go_roundw
                  case rel => exact ⟨j + 1, by omega, by go_num, hb2, fun x hx => by
                    rcases Nat.lt_succ_iff_lt_or_eq.1 hx with h' | rfl
                    · exact hall2.out x h'
                    · exact Hok.out⟩
                  case measure => simp [intOf]; omega
              · obtain rfl : j = k := by omega
                go_wp2
                go_roundw
                case rel => exact ⟨j + 1, by omega, by go_num, hb.trans (hb2.mono hb.size), fun v hv => by
                  rcases Nat.lt_succ_iff_lt_or_eq.1 hv with h' | rfl
                  · exact hall.out v h'
                  · exact ⟨HIn.out, hall2.out⟩⟩
                case measure => simp [intOf]; omega
          · have Hno := Lib.hid (coloring_out (n := m) (Q := Q) (C := C) hlt hin)
            go_wp2_with (go_at_call 61; refine (within_no _ _ _ _ hin).mono ?_; rintro e w' ⟨rfl, rfl⟩)
            go_ret
            exact ⟨ret_bool (HR.out.trans Hno.out).symm, hwr⟩
        · obtain rfl : k = m := by omega
          go_wp2
          go_ret
          exact ⟨ret_bool (HR.out.trans (coloring_all hall.out)).symm, hwr⟩
    · have Hr := Lib.hid (isColoring_len (N := (n : Int)) (X := ints Q) (C := C) (by rw [hCC.out, ints_len, h.len]; exact hmn))
      have hne : ((m : Int) != n) = true := by simp; omega
      go_enter Try.func19, Try.ntmps19
      go_wp2_with fail
      refine (implIsGraph_is (hX.up (by go_grown)) hn h.is).mono ?_
      rintro e w1 ⟨rfl, hb1⟩
      have hw1 : Below w.heap.size w w1 := Up.then_ (by go_grown) hb1
      obtain ⟨hc1, hf1⟩ := bcell hb1
      have hz1 := hb1.size
      try simp only [World.size_alloc] at hz1
      try simp only [World.size_setCell] at hz1
      try simp only [World.size_alloc] at hz1
      try simp only [World.size_drew] at hz1
      have hl1_0 : w.heap.size < w1.heap.size := by omega
      obtain ⟨hx0, hx1⟩ := ((Blk.new w 27 #[.int .i64 n, .slice A n c]).up hb1).two
      go_wp2
      go_ret
      exact ⟨ret_bool Hr.out.symm, by go_grown⟩

set_option maxHeartbeats 2000000 in
theorem specIsColoring_any (N : Int) (A B : Option Addr) (n m c d : Nat) (X C : List Int) (w : World) (hX : RI w A n X) (hC : RI w B m C) (hn : n ≤ 9223372036854775807) (hm : m ≤ 9223372036854775807) :
    Calls Try.prog 16 #[.agg #[.int .i64 N, .slice A n c], .slice B m d] w fun e w' => e = .returned (.bool (isColoring N X C)) ∧ Below w.heap.size w w' := by
  have hXX := Lib.hid hX.1
  have hCC := Lib.hid hC.1
  rcases isGraph_cases N X with hg | ⟨k, Q, rfl, rfl, h⟩
  · have Hg := Lib.hid hg
    have Hr := Lib.hid (isColoring_no (C := C) hg)
    clear hg
    go_enter Try.func16, Try.ntmps16
    go_wp2_with fail
    refine (specIsGraph_is (hX.up (by go_grown)) hn Hg.out).mono ?_
    rintro e w1 ⟨rfl, hb1⟩
    have hw1 : Below w.heap.size w w1 := Up.then_ (by go_grown) hb1
    obtain ⟨hc1, hf1⟩ := bcell hb1
    have hz1 := hb1.size
    try simp only [World.size_alloc] at hz1
    try simp only [World.size_setCell] at hz1
    try simp only [World.size_alloc] at hz1
    try simp only [World.size_drew] at hz1
    have hl1_0 : w.heap.size < w1.heap.size := by omega
    go_wp2
    go_ret
    exact ⟨ret_bool Hr.out.symm, by go_grown⟩
  · have hn7 := h.le
    obtain rfl : n = k := by have := hXX.out; rw [ints_len, h.len] at this; omega
    by_cases hmn : m = n
    · subst hmn
      have HR := Lib.hid (isColoring_ok h hCC.out)
      go_enter Try.func16, Try.ntmps16
      go_wp2_with fail
      refine (specIsGraph_is (hX.up (by go_grown)) hn h.is).mono ?_
      rintro e w1 ⟨rfl, hb1⟩
      have hw1 : Below w.heap.size w w1 := Up.then_ (by go_grown) hb1
      obtain ⟨hc1, hf1⟩ := bcell hb1
      have hz1 := hb1.size
      try simp only [World.size_alloc] at hz1
      try simp only [World.size_setCell] at hz1
      try simp only [World.size_alloc] at hz1
      try simp only [World.size_drew] at hz1
      have hl1_0 : w.heap.size < w1.heap.size := by omega
      have hblk0 := (Blk.new w 27 #[.int .i64 m, .slice A m c]).up hb1
      clear hc1 hf1
      obtain ⟨hx0, hx1⟩ := hblk0.two
      go_wp2_with fail
      go_loopw [5] (fun i wr => ∃ k : Nat, k ≤ m ∧ i = .int .i64 k ∧ Below w1.heap.size w1 wr ∧ Hid (∀ v, v < k → (0 ≤ C.getD v 0 ∧ C.getD v 0 ≤ 6) ∧ ∀ x, x < v → colPair Q C v x = false)) (fun i _ => m - (intOf i).toNat)
      case atStart => exact ⟨0, Nat.zero_le _, rfl, Below.refl _ _, fun j h => absurd h (by omega)⟩
      case round =>
        obtain ⟨k, hk, rfl, hb, hall⟩ := hrel
        obtain ⟨wo, rfl⟩ : ∃ wo : World, wo = wr := ⟨_, rfl⟩
        clear hx0 hx1
        have hblk := hblk0.up hb
        have hwr := Up.then_ hw1 hb
        obtain ⟨hx0, hx1⟩ := hblk.two
        by_cases hlt : k < m
        · obtain ⟨b, rfl, _, hcb⟩ := (hC.up hwr).at_ hlt
          by_cases hin : 0 ≤ C.getD k 0 ∧ C.getD k 0 ≤ 6
          · have HIn := Lib.hid hin
            have hin' : 0 ≤ C[k]?.getD 0 ∧ C[k]?.getD 0 ≤ 6 := hin
            clear hin
            go_wp2_with (go_at_call 58; refine (l1In_eq hin').mono ?_; rintro e w' ⟨rfl, rfl⟩)
            go_loopw [6] (fun s wr => ∃ j : Nat, j ≤ k ∧ s = .int .i64 j ∧ Below wo.heap.size wo wr ∧ Hid (∀ x, x < j → colPair Q C k x = false)) (fun s _ => k - (intOf s).toNat)
            case atStart => exact ⟨0, Nat.zero_le _, rfl, Below.refl _ _, fun j h => absurd h (by omega)⟩
            case round =>
              obtain ⟨j, hj, rfl, hb2, hall2⟩ := hrel
              obtain ⟨wi, rfl⟩ : ∃ wi : World, wi = wr := ⟨_, rfl⟩
              clear hx0 hx1
              have hblk2 := hblk.up hb2
              have hwr2 := Up.then_ hwr hb2
              obtain ⟨hx0, hx1⟩ := hblk2.two
              have hl2 := hblk2.lt
              by_cases hjt : j < k
              · have hXw := hX.up hwr2
                have hjm : j < m := by omega
                obtain ⟨b1, e1', hlk, hck⟩ := (hC.up hwr2).at_ hlt
                injection e1' with e1'
                subst e1'
                obtain ⟨b', e', hlj, hcj⟩ := (hC.up hwr2).at_ (show j < m by omega)
                injection e' with e'
                subst e'
                rcases Bool.eq_false_or_eq_true ((nb Q k).testBit j) with e1 | e1
                · have H1 := Lib.hid e1
                  clear e1
                  rcases Bool.eq_false_or_eq_true (C[k]?.getD 0 == C[j]?.getD 0) with e2 | e2
                  · have Hno := Lib.hid (coloring_pair (n := m) (Q := Q) (C := C) hlt hjt (by rw [colPair, H1.out]; simp at e2 ⊢; exact e2.symm))
                    go_wp2
                    have hU0 : Up wi wi.drew := (Up.refl _).drew
                    go_region_held3 (fun w' => Up wi w' ∧ (∀ b o, b < wi.heap.size → w'.cell? ⟨b, o, none⟩ = wi.cell? ⟨b, o, none⟩) ∧ w'.cell? (b.add k) = some (.int .i64 (C.getD k 0)) ∧ w'.cell? (b.add j) = some (.int .i64 (C.getD j 0))) (first | exact upk3 hU1 hlk hck hcj | exact upk3 hU0 hlk hck hcj)
                      (first | (go_at_call 59; refine (l2Edge_is (hXw.up hU0) h hlt (by omega) H1.out).mono ?_; rintro e w2 ⟨rfl, hb3⟩; have hU1 := Up.then_ hU0 hb3))
                    go_wp2
                    go_ret
                    exact ⟨ret_bool (HR.out.trans Hno.out).symm, Up.then_ hwr2 hU1⟩
                  · have Hok := Lib.hid (show colPair Q C k j = false by rw [colPair, H1.out]; simp at e2 ⊢; exact fun e => e2 e.symm)
                    go_wp2
                    have hU0 : Up wi wi.drew := (Up.refl _).drew
                    go_region_held3 (fun w' => Up wi w' ∧ (∀ b o, b < wi.heap.size → w'.cell? ⟨b, o, none⟩ = wi.cell? ⟨b, o, none⟩) ∧ w'.cell? (b.add k) = some (.int .i64 (C.getD k 0)) ∧ w'.cell? (b.add j) = some (.int .i64 (C.getD j 0))) (first | exact upk3 hU1 hlk hck hcj | exact upk3 hU0 hlk hck hcj)
                      (first | (go_at_call 59; refine (l2Edge_is (hXw.up hU0) h hlt (by omega) H1.out).mono ?_; rintro e w2 ⟨rfl, hb3⟩; have hU1 := Up.then_ hU0 hb3))
                    go_wp2
                    go_roundw
                    case rel => exact ⟨j + 1, by omega, by go_num, Up.then_ hb2 hU1, fun x hx => by
                      rcases Nat.lt_succ_iff_lt_or_eq.1 hx with h' | rfl
                      · exact hall2.out x h'
                      · exact Hok.out⟩
                    case measure => simp [intOf]; omega
                · have H1 := Lib.hid e1
                  clear e1
                  have Hok := Lib.hid (show colPair Q C k j = false by rw [colPair, H1.out]; rfl)
                  go_wp2
                  have hU0 : Up wi wi.drew := (Up.refl _).drew
                  refine wp_region_held_drew (S := (fun w' => Up wi w' ∧ (∀ b o, b < wi.heap.size → w'.cell? ⟨b, o, none⟩ = wi.cell? ⟨b, o, none⟩))) (by kernel_rfl) (upk hU0) (fun hHeld => ?_)
                  refine wpAnyH_take (i := 0) (oi := { dst := some 34, op := .load 27 (.tmp 2), type := 27, pos := "l07_clique.go:85", after := #[], guard := none }) (v := ?_) rfl (by kernel_rfl) (by kernel_rfl) (by kernel_rfl) (fun _ _ _ h => h) (Or.inl ⟨by rfl, ?_⟩) (by assumption) ?_
                  rotate_left
                  · intro w' hSw
                    go_simp
                    try with_reducible rfl
                  try simp only [Act.put, List.setIfInBounds_toArray, List.set_cons_zero, List.set_cons_succ]
                  refine wpAnyH_take (i := 1) (oi := { dst := some 35, op := .move (.tmp 5), type := 3, pos := "l07_clique.go:85", after := #[], guard := none }) (v := ?_) rfl (by kernel_rfl) (by kernel_rfl) (by kernel_rfl) (fun _ _ _ h => h) (Or.inl ⟨by rfl, ?_⟩) (by assumption) ?_
                  rotate_left
                  · intro w' hSw
                    go_simp
                    try with_reducible rfl
                  try simp only [Act.put, List.setIfInBounds_toArray, List.set_cons_zero, List.set_cons_succ]
                  refine wpAnyH_take (i := 2) (oi := { dst := some 36, op := .move (.tmp 6), type := 3, pos := "l07_clique.go:85", after := #[], guard := none }) (v := ?_) rfl (by kernel_rfl) (by kernel_rfl) (by kernel_rfl) (fun _ _ _ h => h) (Or.inl ⟨by rfl, ?_⟩) (by assumption) ?_
                  rotate_left
                  · intro w' hSw
                    go_simp
                    try with_reducible rfl
                  try simp only [Act.put, List.setIfInBounds_toArray, List.set_cons_zero, List.set_cons_succ]
                  refine wpAnyH_ready (rs := [3]) (by kernel_rfl) (by simp) ?_
                  refine AllReadyH.cons (o := { dst := some 37, op := .call { callee := .value (.func 59), args := #[.tmp 34, .tmp 35, .tmp 36], argTypes := #[27, 3, 3] }, type := 4, pos := "l07_clique.go:85", after := #[{ on := 0, ground := .data }, { on := 1, ground := .data }, { on := 2, ground := .data }], guard := none }) rfl (fun K hK => ?_) AllReadyH.nil
                  go_simp
                  go_at_call 59
                  refine (l2Edge_is (hXw.up hU0) h hlt (by omega) H1.out).mono ?_
                  rintro e w2 ⟨rfl, hb3⟩
                  have hU1 := Up.then_ hU0 hb3
                  go_wp2_with fail
                  refine hK.out _ _ (upk hU1) (fun hHeld1 => ?_)
                  clear hK K
                  try simp only [Act.put, List.setIfInBounds_toArray, List.set_cons_zero, List.set_cons_succ]
                  refine wpAnyH_take (i := 4) (oi := { dst := some 38, op := .move (.tmp 37), type := 4, pos := "l07_clique.go:85", after := #[{ on := 3, ground := .data }, { on := 3, ground := .chain }], guard := none }) (v := ?_) rfl (by kernel_rfl) (by kernel_rfl) (by kernel_rfl) (fun _ _ _ h => h) (Or.inl ⟨by rfl, ?_⟩) (by assumption) ?_
                  rotate_left
                  · intro w' hSw
                    go_simp
                    try with_reducible rfl
                  try simp only [Act.put, List.setIfInBounds_toArray, List.set_cons_zero, List.set_cons_succ]
                  refine wpAnyH_take (i := 5) (oi := { dst := some 39, op := .move (.tmp 1), type := 22, pos := "l07_clique.go:85", after := #[{ on := 4, ground := .guard }], guard := some (4, true) }) (v := undef) rfl (by kernel_rfl) (by kernel_rfl) (by kernel_rfl) (fun _ _ _ h => h) (Or.inr ⟨by rfl, rfl⟩) (by assumption) ?_
                  try simp only [Act.put, List.setIfInBounds_toArray, List.set_cons_zero, List.set_cons_succ]
                  refine wpAnyH_take (i := 6) (oi := { dst := some 40, op := .move (.tmp 5), type := 3, pos := "l07_clique.go:85", after := #[{ on := 4, ground := .guard }], guard := some (4, true) }) (v := undef) rfl (by kernel_rfl) (by kernel_rfl) (by kernel_rfl) (fun _ _ _ h => h) (Or.inr ⟨by rfl, rfl⟩) (by assumption) ?_
                  try simp only [Act.put, List.setIfInBounds_toArray, List.set_cons_zero, List.set_cons_succ]
                  refine wpAnyH_take (i := 7) (oi := { dst := some 41, op := .indexAddr 22 (.tmp 39) (.tmp 40), type := 0, pos := "l07_clique.go:85", after := #[{ on := 5, ground := .data }, { on := 6, ground := .data }, { on := 4, ground := .guard }], guard := some (4, true) }) (v := undef) rfl (by kernel_rfl) (by kernel_rfl) (by kernel_rfl) (fun _ _ _ h => h) (Or.inr ⟨by rfl, rfl⟩) (by assumption) ?_
                  try simp only [Act.put, List.setIfInBounds_toArray, List.set_cons_zero, List.set_cons_succ]
                  refine wpAnyH_take (i := 8) (oi := { dst := some 42, op := .load 3 (.tmp 41), type := 3, pos := "l07_clique.go:85", after := #[{ on := 7, ground := .data }, { on := 4, ground := .guard }], guard := some (4, true) }) (v := undef) rfl (by kernel_rfl) (by kernel_rfl) (by kernel_rfl) (fun _ _ _ h => h) (Or.inr ⟨by rfl, rfl⟩) (by assumption) ?_
                  try simp only [Act.put, List.setIfInBounds_toArray, List.set_cons_zero, List.set_cons_succ]
                  refine wpAnyH_take (i := 9) (oi := { dst := some 43, op := .move (.tmp 1), type := 22, pos := "l07_clique.go:85", after := #[{ on := 4, ground := .guard }], guard := some (4, true) }) (v := undef) rfl (by kernel_rfl) (by kernel_rfl) (by kernel_rfl) (fun _ _ _ h => h) (Or.inr ⟨by rfl, rfl⟩) (by assumption) ?_
                  try simp only [Act.put, List.setIfInBounds_toArray, List.set_cons_zero, List.set_cons_succ]
                  refine wpAnyH_take (i := 10) (oi := { dst := some 44, op := .move (.tmp 6), type := 3, pos := "l07_clique.go:85", after := #[{ on := 4, ground := .guard }], guard := some (4, true) }) (v := undef) rfl (by kernel_rfl) (by kernel_rfl) (by kernel_rfl) (fun _ _ _ h => h) (Or.inr ⟨by rfl, rfl⟩) (by assumption) ?_
                  try simp only [Act.put, List.setIfInBounds_toArray, List.set_cons_zero, List.set_cons_succ]
                  refine wpAnyH_take (i := 11) (oi := { dst := some 45, op := .indexAddr 22 (.tmp 43) (.tmp 44), type := 0, pos := "l07_clique.go:85", after := #[{ on := 9, ground := .data }, { on := 10, ground := .data }, { on := 4, ground := .guard }], guard := some (4, true) }) (v := undef) rfl (by kernel_rfl) (by kernel_rfl) (by kernel_rfl) (fun _ _ _ h => h) (Or.inr ⟨by rfl, rfl⟩) (by assumption) ?_
                  try simp only [Act.put, List.setIfInBounds_toArray, List.set_cons_zero, List.set_cons_succ]
                  refine wpAnyH_take (i := 12) (oi := { dst := some 46, op := .load 3 (.tmp 45), type := 3, pos := "l07_clique.go:85", after := #[{ on := 11, ground := .data }, { on := 4, ground := .guard }], guard := some (4, true) }) (v := undef) rfl (by kernel_rfl) (by kernel_rfl) (by kernel_rfl) (fun _ _ _ h => h) (Or.inr ⟨by rfl, rfl⟩) (by assumption) ?_
                  try simp only [Act.put, List.setIfInBounds_toArray, List.set_cons_zero, List.set_cons_succ]
                  refine wpAnyH_take (i := 13) (oi := { dst := some 47, op := .binOp .eql 3 (.tmp 42) (.tmp 46) 3, type := 4, pos := "l07_clique.go:85", after := #[{ on := 8, ground := .data }, { on := 12, ground := .data }, { on := 4, ground := .guard }], guard := some (4, true) }) (v := undef) rfl (by kernel_rfl) (by kernel_rfl) (by kernel_rfl) (fun _ _ _ h => h) (Or.inr ⟨by rfl, rfl⟩) (by assumption) ?_
                  try simp only [Act.put, List.setIfInBounds_toArray, List.set_cons_zero, List.set_cons_succ]
                  refine wpAnyH_take (i := 14) (oi := { dst := some 48, op := .pick (.tmp 38) (.tmp 47) (.const (.bool false)), type := 4, pos := "l07_clique.go:85", after := #[{ on := 4, ground := .data }, { on := 13, ground := .data }], guard := none }) (v := ?_) rfl (by kernel_rfl) (by kernel_rfl) (by kernel_rfl) (fun _ _ _ h => h) (Or.inl ⟨by rfl, ?_⟩) (by assumption) ?_
                  rotate_left
                  · intro w' hSw
                    go_simp
                    try with_reducible rfl
                  try simp only [Act.put, List.setIfInBounds_toArray, List.set_cons_zero, List.set_cons_succ]
                  refine wpAnyH_done (by kernel_rfl) ?_ _
                  go_wp2
                  go_roundw
                  case rel => exact ⟨j + 1, by omega, by go_num, Up.then_ hb2 hU1, fun x hx => by
                    rcases Nat.lt_succ_iff_lt_or_eq.1 hx with h' | rfl
                    · exact hall2.out x h'
                    · exact Hok.out⟩
                  case measure => simp [intOf]; omega
              · obtain rfl : j = k := by omega
                go_wp2
                go_roundw
                case rel => exact ⟨j + 1, by omega, by go_num, hb.trans (hb2.mono hb.size), fun v hv => by
                  rcases Nat.lt_succ_iff_lt_or_eq.1 hv with h' | rfl
                  · exact hall.out v h'
                  · exact ⟨HIn.out, hall2.out⟩⟩
                case measure => simp [intOf]; omega
          · have Hno := Lib.hid (coloring_out (n := m) (Q := Q) (C := C) hlt hin)
            go_wp2_with (go_at_call 58; refine (l1In_no _ _ _ _ hin).mono ?_; rintro e w' ⟨rfl, rfl⟩)
            go_ret
            exact ⟨ret_bool (HR.out.trans Hno.out).symm, hwr⟩
        · obtain rfl : k = m := by omega
          go_wp2
          go_ret
          exact ⟨ret_bool (HR.out.trans (coloring_all hall.out)).symm, hwr⟩
    · have Hr := Lib.hid (isColoring_len (N := (n : Int)) (X := ints Q) (C := C) (by rw [hCC.out, ints_len, h.len]; exact hmn))
      have hne : ((m : Int) != n) = true := by simp; omega
      go_enter Try.func16, Try.ntmps16
      go_wp2_with fail
      refine (specIsGraph_is (hX.up (by go_grown)) hn h.is).mono ?_
      rintro e w1 ⟨rfl, hb1⟩
      have hw1 : Below w.heap.size w w1 := Up.then_ (by go_grown) hb1
      obtain ⟨hc1, hf1⟩ := bcell hb1
      have hz1 := hb1.size
      try simp only [World.size_alloc] at hz1
      try simp only [World.size_setCell] at hz1
      try simp only [World.size_alloc] at hz1
      try simp only [World.size_drew] at hz1
      have hl1_0 : w.heap.size < w1.heap.size := by omega
      obtain ⟨hx0, hx1⟩ := ((Blk.new w 27 #[.int .i64 n, .slice A n c]).up hb1).two
      go_wp2
      go_ret
      exact ⟨ret_bool Hr.out.symm, by go_grown⟩
end Go.Proofs.Ytcaoelihmkbedaa
