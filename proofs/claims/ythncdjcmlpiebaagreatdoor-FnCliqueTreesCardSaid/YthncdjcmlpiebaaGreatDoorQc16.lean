/- Walks of chapter 8: the reference's minimal separators. Minimal separators: whatever the arguments. Walks of chapter 8: the minimal separators of a graph. Walks of chapter 8: bags that hang together. -/
import Derived.Test.YthncdjcmlpiebaaGreatDoorQc01
import Derived.Test.YthncdjcmlpiebaaGreatDoorQc02
import Derived.Test.YthncdjcmlpiebaaGreatDoorQc03
import Derived.Test.YthncdjcmlpiebaaGreatDoorQc15
namespace Go.Proofs.YthncdjcmlpiebaaGreatDoor
open Go.RowKit
set_option maxRecDepth 100000 in
theorem rest_sub {n s : Nat} (hs : s < 2 ^ n) : ((p2 n : Nat) : Int) - 1 - (s : Int) = ((restOf n s : Nat) : Int) := by
  have hsub : sub s (2 ^ n - 1) := fun i hi => by
    rw [Nat.testBit_two_pow_sub_one]
    simpa using bit_lt hs hi
  have := dif_add hsub
  have e : restOf n s = dif (2 ^ n - 1) s := rfl
  have e2 : p2 n = 2 ^ n := rfl
  have := Nat.two_pow_pos n
  omega
set_option maxRecDepth 100000 in
theorem upk1 {w w' : World} (h : Up w w') {b : Addr} {k : Nat} {u : Value} (hl : b.block < w.heap.size) (hu : w.cell? (b.add k) = some u) :
    Up w w' ∧ (∀ b o, b < w.heap.size → w'.cell? ⟨b, o, none⟩ = w.cell? ⟨b, o, none⟩) ∧ w'.cell? (b.add k) = some u :=
  ⟨h, fun _ _ hb => h.cell hb, (h.cell (by rw [block_of_add]; exact hl)).trans hu⟩
set_option maxRecDepth 100000 in
set_option maxHeartbeats 1000000 in
theorem specIsMinimalSeparator_ok (A : Option Addr) (n c s : Nat) (Q : List Nat) (w : World) (hX : RI w A n (ints Q)) (h : GOk n Q) (hs : s < 2 ^ n) :
    Calls Tryz.prog 49 #[.agg #[.int .i64 n, .slice A n c], .int .i64 s] w fun e w' => e = .returned (.bool (minSep Q n s)) ∧ Below w.heap.size w w' := by
  have hs7 := h.n7 hs
  have hn7 := h.le
  have hq := rest_sub hs
  have hp := shl_p2 (k := n) (by omega)
  have hp1 := p2_le hn7
  have hp2 := p2_pos n
  have hr2 := rest_lt (n := n) (s := s)
  have hin := fun j hj => part_in (Q := Q) (n := n) (s := s) (j := j) hn7 hj
  have href := fun p hp => sees_ref (Q := Q) (n := n) (s := s) (p := p) hp
  obtain ⟨q, hqq⟩ : ∃ q, q = restOf n s := ⟨_, rfl⟩
  have HM := Lib.hid (show minSep Q n s = decide (2 ≤ full Q s (partsOf Q n q)) by rw [hqq]; rfl)
  rw [← hqq] at hq hr2 hin href
  clear hqq
  have Hin := Lib.hid hin
  have Href := Lib.hid href
  clear hin href
  have hv1 : IntKind.i64.wrap ((2 : Int) ^ n) = ((p2 n : Nat) : Int) := by rw [IntWalk.i64_left]; exact hp
  have hv2 : IntKind.i64.wrap (((p2 n : Nat) : Int) - 1) = ((p2 n : Nat) : Int) - 1 := IntWalk.i64_in _ (by omega)
  have hv3 : IntKind.i64.wrap (((p2 n : Nat) : Int) - 1 - (s : Int)) = ((q : Nat) : Int) := by rw [hq]; exact IntWalk.i64_in _ (by have := h.n7 hr2; omega)
  clear hq
  go_enter Tryz.func49, Tryz.ntmps49
  go_wp2_with fail
  refine (specIsSet_ok (hX.up (by go_grown)) h hs).mono ?_
  rintro e w1 ⟨rfl, hb1⟩
  have hw1 : Below w.heap.size w w1 := Up.then_ (by go_grown) hb1
  obtain ⟨hc1, hf1⟩ := bcell hb1
  have hz1 := hb1.size
  try simp only [World.size_alloc] at hz1
  try simp only [World.size_setCell] at hz1
  try simp only [World.size_alloc] at hz1
  try simp only [World.size_drew] at hz1
  have hl1_0 : w.heap.size < w1.heap.size := by omega
  have hblk0 := (Blk.new w 29 #[.int .i64 n, .slice A n c]).up hb1
  clear hc1 hf1
  obtain ⟨hx0, hx1⟩ := hblk0.two
  have hbl := hblk0.lt
  have hX1 := hX.up hw1
  go_wp2
  have hU0 : Up w1 w1.drew := (Up.refl _).drew
  go_region_held3 (fun w' => Up w1 w' ∧ ∀ b o, b < w1.heap.size → w'.cell? ⟨b, o, none⟩ = w1.cell? ⟨b, o, none⟩) (first | exact upk hU1 | exact upk hU0)
    (first | (go_at_call 101; refine ((specPartsOf_any A n c q Q _ (hX1.up hU0) h hr2).mono fun e w' hg => hg.out).mono ?_; rintro e w3 ⟨B, d, rfl, hown, hb3⟩; have hU1 := Up.then_ hU0 hb3))
  have hw3 := Up.then_ hw1 hU1
  have hblk3 := hblk0.up hU1
  have hri0 := hown.ri
  have hX3 := hX.up hw3
  obtain ⟨l, hl⟩ : ∃ l, l = partsOf Q n q := ⟨_, rfl⟩
  rw [← hl] at hri0 HM Hin
  rw [← hl]
  have hlen : l.length ≤ 128 := by rw [hl]; exact partsOf_len h hr2
  clear hown hl hx0 hx1 hbl hv1 hv2 hv3 hp
  go_wp2_with fail
  go_loopw [6, 7] (fun v i wr => ∃ k : Nat, k ≤ l.length ∧ i = .int .i64 k ∧ v = .int .i64 (full Q s (l.take k)) ∧ Below w3.heap.size w3 wr) (fun _ i _ => l.length - (intOf i).toNat)
  case atStart => exact ⟨0, Nat.zero_le _, rfl, rfl, Below.refl _ _⟩
  case round =>
    obtain ⟨k, hk, rfl, rfl, hb⟩ := hrel
    have hblk := hblk3.up hb
    have hwr := Up.then_ hw3 hb
    obtain ⟨hx0, hx1⟩ := hblk.two
    have hbl := hblk.lt
    have hXr := hX3.up hb
    by_cases hlt : k < l.length
    · obtain ⟨b, rfl, hbl4, hcb0⟩ := (hri0.up hb).at_ hlt
      have hcb : wr.cell? (b.add k) = some (.int .i64 (nb l k)) := by rw [hcb0, ints_nb]
      clear hcb0
      have hp2' := sub_lt2 (Hin.out k hlt) hr2
      have hf := full_take (Q := Q) (s := s) hlt
      have hfl := full_len Q s (l.take k)
      have hand := i64_and7 (h.n7 (around_lt h hp2')) hs7
      rw [List.length_take] at hfl
      rcases Bool.eq_false_or_eq_true (sees Q s (nb l k)) with hd | hd
      · have HF := Lib.hid (hf.trans (by rw [if_pos (show sees Q s (l.getD k 0) = true from hd)]))
        have hh := (Href.out _ (Hin.out k hlt)).trans hd
        rw [beq_iff_eq.1 hh] at hand
        clear hh
        clear hf hd
        go_wp2
        have hU3 : Up wr wr.drew := (Up.refl _).drew
        go_region_held3 (fun w' => Up wr w' ∧ (∀ b o, b < wr.heap.size → w'.cell? ⟨b, o, none⟩ = wr.cell? ⟨b, o, none⟩) ∧ w'.cell? (b.add k) = some (.int .i64 (nb l k))) (first | exact upk1 hU4 hbl4 hcb | exact upk1 hU3 hbl4 hcb)
          (first | (go_at_call 102; refine (specAround_any A n c (nb l k) Q _ (hXr.up hU3) h hp2').mono ?_; rintro e w4 ⟨rfl, hb4⟩; have hU4 := Up.then_ hU3 hb4))
        go_wp2
        go_roundw
        case rel => exact ⟨k + 1, by omega, by go_num, by rw [HF.out]; go_num, Up.then_ hb hU4⟩
        case measure => simp [intOf]; omega
      · have HF := Lib.hid (hf.trans (by rw [if_neg (show ¬ sees Q s (l.getD k 0) = true from fun e => by rw [show sees Q s (l.getD k 0) = false from hd] at e; cases e)]))
        have hne : (((around Q (nb l k) &&& s : Nat) : Int) == (s : Int)) = false := by
          have hh := (Href.out _ (Hin.out k hlt)).trans hd
          rw [beq_eq_false_iff_ne] at hh ⊢
          omega
        clear hf hd
        go_wp2
        have hU3 : Up wr wr.drew := (Up.refl _).drew
        go_region_held3 (fun w' => Up wr w' ∧ (∀ b o, b < wr.heap.size → w'.cell? ⟨b, o, none⟩ = wr.cell? ⟨b, o, none⟩) ∧ w'.cell? (b.add k) = some (.int .i64 (nb l k))) (first | exact upk1 hU4 hbl4 hcb | exact upk1 hU3 hbl4 hcb)
          (first | (go_at_call 102; refine (specAround_any A n c (nb l k) Q _ (hXr.up hU3) h hp2').mono ?_; rintro e w4 ⟨rfl, hb4⟩; have hU4 := Up.then_ hU3 hb4))
        go_wp2
        go_roundw
        case rel => exact ⟨k + 1, by omega, by go_num, by rw [HF.out]; rfl, Up.then_ hb hU4⟩
        case measure => simp [intOf]; omega
    · obtain rfl : k = l.length := by omega
      go_wp2
      go_ret
      exact ⟨ret_bool (by rw [HM.out]; exact decide_eq_decide.2 (by omega)), hwr⟩
end Go.Proofs.YthncdjcmlpiebaaGreatDoor
namespace Go.Proofs.YthncdjcmlpiebaaGreatDoor
open Go.RowKit
def isMinSep (N : Int) (X : List Int) (s : Int) : Bool := isSet N X s && minSep (X.map Int.toNat) N.toNat s.toNat
set_option maxRecDepth 100000 in
theorem isMinSep_no {N : Int} {X : List Int} {s : Int} (h : isSet N X s = false) : isMinSep N X s = false := by rw [isMinSep, h]; rfl
set_option maxRecDepth 100000 in
theorem isMinSep_ok {n s : Nat} {Q : List Nat} (h : GOk n Q) (hs : s < 2 ^ n) : isMinSep n (ints Q) s = minSep Q n s := by
  rw [isMinSep, h.isSet hs, nats_ints, Int.toNat_natCast, Int.toNat_natCast]; rfl
set_option maxRecDepth 100000 in
theorem isSet_cases (N : Int) (X : List Int) (s : Int) : isSet N X s = false ∨ ∃ (k t : Nat) (Q : List Nat), N = k ∧ X = ints Q ∧ s = t ∧ GOk k Q ∧ t < 2 ^ k := by
  rcases Bool.eq_false_or_eq_true (isSet N X s) with h | h
  · refine .inr ?_
    rw [isSet, Bool.and_eq_true, Bool.and_eq_true, decide_eq_true_eq, decide_eq_true_eq] at h
    obtain ⟨⟨hg, h0⟩, h1⟩ := h
    obtain ⟨k, Q, rfl, rfl, hk⟩ := isGraph_ok hg
    rw [ints_len, hk.len] at h1
    exact ⟨k, s.toNat, Q, rfl, rfl, by omega, hk, by omega⟩
  · exact .inl h
set_option maxRecDepth 100000 in
theorem implIsMinimalSeparator_any (N : Int) (A : Option Addr) (n c : Nat) (X : List Int) (s : Int) (w : World) (hX : RI w A n X) (hn : n ≤ 9223372036854775807) :
    Calls Tryz.prog 48 #[.agg #[.int .i64 N, .slice A n c], .int .i64 s] w fun e w' => e = .returned (.bool (isMinSep N X s)) ∧ Below w.heap.size w w' := by
  rcases isSet_cases N X s with hg | ⟨k, t, Q, rfl, rfl, rfl, h, ht⟩
  · have Hg := Lib.hid hg
    have Hr := Lib.hid (isMinSep_no hg)
    clear hg
    go_enter Tryz.func48, Tryz.ntmps48
    go_wp2_with fail
    refine (implIsSet_any N A n c X s _ (hX.up (by go_grown)) hn).mono ?_
    rintro e w1 ⟨rfl, hb1⟩
    have hw1 : Below w.heap.size w w1 := Up.then_ (by go_grown) hb1
    obtain ⟨hc1, hf1⟩ := bcell hb1
    have hz1 := hb1.size
    try simp only [World.size_alloc] at hz1
    try simp only [World.size_setCell] at hz1
    try simp only [World.size_alloc] at hz1
    try simp only [World.size_drew] at hz1
    have hl1_0 : w.heap.size < w1.heap.size := by omega
    rw [Hg.out]
    go_wp2
    go_ret
    exact ⟨ret_bool Hr.out.symm, by go_grown⟩
  · obtain rfl : n = k := by rw [← hX.1, ints_len, h.len]
    rw [isMinSep_ok h ht]
    exact implIsMinimalSeparator_ok A n c t Q w hX h ht
set_option maxRecDepth 100000 in
theorem specIsMinimalSeparator_any (N : Int) (A : Option Addr) (n c : Nat) (X : List Int) (s : Int) (w : World) (hX : RI w A n X) (hn : n ≤ 9223372036854775807) :
    Calls Tryz.prog 49 #[.agg #[.int .i64 N, .slice A n c], .int .i64 s] w fun e w' => e = .returned (.bool (isMinSep N X s)) ∧ Below w.heap.size w w' := by
  rcases isSet_cases N X s with hg | ⟨k, t, Q, rfl, rfl, rfl, h, ht⟩
  · have Hg := Lib.hid hg
    have Hr := Lib.hid (isMinSep_no hg)
    clear hg
    go_enter Tryz.func49, Tryz.ntmps49
    go_wp2_with fail
    refine (specIsSet_any N A n c X s _ (hX.up (by go_grown)) hn).mono ?_
    rintro e w1 ⟨rfl, hb1⟩
    have hw1 : Below w.heap.size w w1 := Up.then_ (by go_grown) hb1
    obtain ⟨hc1, hf1⟩ := bcell hb1
    have hz1 := hb1.size
    try simp only [World.size_alloc] at hz1
    try simp only [World.size_setCell] at hz1
    try simp only [World.size_alloc] at hz1
    try simp only [World.size_drew] at hz1
    have hl1_0 : w.heap.size < w1.heap.size := by omega
    rw [Hg.out]
    go_wp2
    go_ret
    exact ⟨ret_bool Hr.out.symm, by go_grown⟩
  · obtain rfl : n = k := by rw [← hX.1, ints_len, h.len]
    rw [isMinSep_ok h ht]
    exact specIsMinimalSeparator_ok A n c t Q w hX h ht
end Go.Proofs.YthncdjcmlpiebaaGreatDoor
namespace Go.Proofs.YthncdjcmlpiebaaGreatDoor
open Go.RowKit
def sepsOf (N : Int) (X : List Int) : List Nat := if isGraph N X then filtK (minSep (X.map Int.toNat) N.toNat) (2 ^ N.toNat) else []
set_option maxRecDepth 100000 in
theorem sepsOf_no {N : Int} {X : List Int} (h : isGraph N X = false) : sepsOf N X = [] := by rw [sepsOf, h]; rfl
set_option maxRecDepth 100000 in
theorem sepsOf_ok {n : Nat} {Q : List Nat} (h : GOk n Q) : sepsOf n (ints Q) = filtK (minSep Q n) (2 ^ n) := by rw [sepsOf, if_pos h.is, nats_ints, Int.toNat_natCast]
set_option maxRecDepth 100000 in
theorem own_new1 (w : World) (t : TypeId) (cs : Array Value) : OwnI ((w.alloc (.cells cs t)).alloc (.cells #[] 3)) w.heap.size (some ⟨w.heap.size + 1, 0, none⟩) 0 0 [] := by
  have hh := OwnI.made (base := w.heap.size) (w.alloc (.cells cs t)) (by simp)
  have e : (w.alloc (.cells cs t)).heap.size = w.heap.size + 1 := by simp
  rw [e] at hh
  exact hh
set_option maxRecDepth 100000 in
set_option maxHeartbeats 1000000 in
theorem implSeparatorsOf_any (N : Int) (A : Option Addr) (n c : Nat) (X : List Int) (w : World) (hX0 : RI w A n X) (hn : n ≤ 9223372036854775807) :
    Calls Tryz.prog 40 #[.agg #[.int .i64 N, .slice A n c]] w (GivesI (ints (sepsOf N X)) w) := by
  have hown0 := own_new1 w 29 #[.int .i64 N, .slice A n c]
  rcases isGraph_cases N X with hg | ⟨k, Q, rfl, rfl, h⟩
  · have Hg := Lib.hid hg
    rw [sepsOf_no hg]
    clear hg
    go_enter Tryz.func40, Tryz.ntmps40
    go_wp2_with fail
    refine (implIsGraph_is (hX0.up (by go_grown)) hn Hg.out).mono ?_
    rintro e w1 ⟨rfl, hb1⟩
    have hU1 : Up w w1 := Up.then_ (by go_grown) hb1
    replace hown0 := hown0.up hb1
    go_wp2
    go_ret
    exact givesI_of (l := []) (hown0.cast rfl rfl) hU1
  · obtain rfl : n = k := by rw [← hX0.1, ints_len, h.len]
    rw [sepsOf_ok h]
    have hn7 := h.le
    have hp1 := p2_le hn7
    have hp2 := p2_pos n
    go_enter Tryz.func40, Tryz.ntmps40
    go_wp2_with fail
    refine (implIsGraph_is (hX0.up (by go_grown)) hn h.is).mono ?_
    rintro e w1 ⟨rfl, hb1⟩
    have hU1 : Up w w1 := Up.then_ (by go_grown) hb1
    replace hown0 := hown0.up hb1
    have hblk := ((Blk.new w 29 #[.int .i64 n, .slice A n c]).alloc (.cells #[] 3)).up hb1
    have hw := hU1
    have yhblk := hblk.two
    have lhblk := hblk.lt
    go_wp2_with fail
    refine (all_any n A c n _ hn7).mono ?_
    rintro e w2 ⟨rfl, hb2⟩
    have hU2 : Up w1 w2 := hb2
    have hw2 := Up.then_ hw hU2
    replace hown0 := hown0.up hU2
    replace hblk := hblk.up hU2
    clear yhblk lhblk
    go_wp2_with fail
    go_loopw [3, 13] (fun v i wr => ∃ (k : Nat) (B : Option Addr) (d : Nat), k ≤ p2 n ∧ i = .int .i64 k ∧ v = .slice B (filtK (minSep Q n) k).length d ∧ OwnI wr w.heap.size B (filtK (minSep Q n) k).length d (ints (filtK (minSep Q n) k)) ∧ Blk wr w.heap.size 29 #[.int .i64 n, .slice A n c] ∧ Below w.heap.size w wr) (fun _ i _ => p2 n - (intOf i).toNat)
    case atStart => exact ⟨0, _, _, by omega, rfl, rfl, hown0.cast rfl rfl, hblk, hw2⟩
    case round =>
      obtain ⟨k, B, d, hk, rfl, rfl, hown, hblk, hwr⟩ := hrel
      have hfl := filtK_len (minSep Q n) k
      have yhblk := hblk.two
      by_cases hlt : k < p2 n
      · have hs : k < 2 ^ n := hlt
        go_wp2_with fail
        refine (implIsMinimalSeparator_ok A n c k Q _ (hX0.up hwr) h hs).mono ?_
        rintro e w3 ⟨rfl, hb3⟩
        have hU3 : Up wr w3 := Up.then_ (by go_grown) hb3
        replace hblk := hblk.up hU3
        replace hown := hown.up hU3
        have hw3 := Up.then_ hwr hU3
        have hsz := hw3.size
        have hcell := (Blk.new w3 3 #[.int .i64 (k : Int)]).one
        rcases Bool.eq_false_or_eq_true (minSep Q n k) with e1 | e1
        · have HF := Lib.hid (filtK_yes e1)
          rw [e1]
          clear e1
          go_wp2_with (at_builtin; refine wpList_push rfl (.tmp 19) (.tmp 21) rfl (k : Int) rfl (hown.alloc _) ⟨w3.heap.size, 0, none⟩ rfl hcell (by omega) (by simp; omega) ?_; intro A' c' w5 hown5 hb5 hg5)
          go_roundw
          case rel => exact ⟨k + 1, A', c', by omega, by go_num, by rw [HF.out, ← push_len], hown5.cast (by rw [HF.out, ← push_len]) (by rw [HF.out, ints_snoc]), (hown.alloc _).keeps hg5 (hblk.alloc _) (by decide), (hw3.alloc hsz _).trans hb5⟩
          case measure => simp [intOf]; omega
        · have HF := Lib.hid (filtK_no e1)
          rw [e1]
          clear e1
          go_wp2
          go_roundw
          case rel => exact ⟨k + 1, B, d, by omega, by go_num, by rw [HF.out], hown.cast (by rw [HF.out]) (by rw [HF.out]), hblk, hw3⟩
          case measure => simp [intOf]; omega
      · obtain rfl : k = p2 n := by omega
        go_wp2
        go_ret
        exact givesI_of (l := filtK (minSep Q n) (2 ^ n)) hown hwr
set_option maxRecDepth 100000 in
set_option maxHeartbeats 1000000 in
theorem specSeparatorsOf_any (N : Int) (A : Option Addr) (n c : Nat) (X : List Int) (w : World) (hX0 : RI w A n X) (hn : n ≤ 9223372036854775807) :
    Calls Tryz.prog 47 #[.agg #[.int .i64 N, .slice A n c]] w (GivesI (ints (sepsOf N X)) w) := by
  have hown0 := own_new1 w 29 #[.int .i64 N, .slice A n c]
  rcases isGraph_cases N X with hg | ⟨k, Q, rfl, rfl, h⟩
  · have Hg := Lib.hid hg
    rw [sepsOf_no hg]
    clear hg
    go_enter Tryz.func47, Tryz.ntmps47
    go_wp2_with fail
    go_loopw [3, 4] (fun v i wr => i = .int .i64 0 ∧ v = .slice (some ⟨w.heap.size + 1, 0, none⟩) 0 0 ∧ OwnI wr w.heap.size (some ⟨w.heap.size + 1, 0, none⟩) 0 0 [] ∧ Blk wr w.heap.size 29 #[.int .i64 N, .slice A n c] ∧ Below w.heap.size w wr) (fun _ i _ => (intOf i).toNat)
    case atStart => exact ⟨rfl, rfl, hown0, (Blk.new w 29 #[.int .i64 N, .slice A n c]).alloc _, by go_grown⟩
    case round =>
      obtain ⟨rfl, rfl, hown, hblk, hwr⟩ := hrel
      have yhblk := hblk.two
      go_wp2_with fail
      refine (specIsGraph_is (hX0.up hwr) hn Hg.out).mono ?_
      rintro e w1 ⟨rfl, hb1⟩
      have hU1 : Up wr w1 := Up.then_ (by go_grown) hb1
      replace hown := hown.up hU1
      go_wp2
      go_ret
      exact givesI_of (l := []) (hown.cast rfl rfl) (Up.then_ hwr hU1)
  · obtain rfl : n = k := by rw [← hX0.1, ints_len, h.len]
    rw [sepsOf_ok h]
    have hn7 := h.le
    have hp1 := p2_le hn7
    have hp2 := p2_pos n
    have hsh := shl_p2 (k := n) (by omega)
    go_enter Tryz.func47, Tryz.ntmps47
    go_wp2_with fail
    go_loopw [3, 4] (fun v i wr => ∃ (k : Nat) (B : Option Addr) (d : Nat), k ≤ p2 n ∧ i = .int .i64 k ∧ v = .slice B (filtK (minSep Q n) k).length d ∧ OwnI wr w.heap.size B (filtK (minSep Q n) k).length d (ints (filtK (minSep Q n) k)) ∧ Blk wr w.heap.size 29 #[.int .i64 n, .slice A n c] ∧ Below w.heap.size w wr) (fun _ i _ => p2 n - (intOf i).toNat)
    case atStart => exact ⟨0, _, _, by omega, rfl, rfl, hown0.cast rfl rfl, (Blk.new w 29 #[.int .i64 n, .slice A n c]).alloc _, by go_grown⟩
    case round =>
      obtain ⟨k, B, d, hk, rfl, rfl, hown, hblk, hwr⟩ := hrel
      have hfl := filtK_len (minSep Q n) k
      have yhblk := hblk.two
      go_wp2_with fail
      refine (specIsGraph_is (hX0.up hwr) hn h.is).mono ?_
      rintro e w1 ⟨rfl, hb1⟩
      have hU1 : Up wr w1 := Up.then_ (by go_grown) hb1
      replace hblk := hblk.up hU1
      replace hown := hown.up hU1
      have hw1 := Up.then_ hwr hU1
      replace yhblk := hblk.two
      by_cases hlt : k < p2 n
      · have hs : k < 2 ^ n := hlt
        go_wp2_with fail
        refine (specIsMinimalSeparator_ok A n c k Q _ (hX0.up hw1) h hs).mono ?_
        rintro e w3 ⟨rfl, hb3⟩
        have hU3 : Up w1 w3 := Up.then_ (by go_grown) hb3
        replace hblk := hblk.up hU3
        replace hown := hown.up hU3
        have hw3 := Up.then_ hw1 hU3
        have hsz := hw3.size
        have hcell := (Blk.new w3 3 #[.int .i64 (k : Int)]).one
        rcases Bool.eq_false_or_eq_true (minSep Q n k) with e1 | e1
        · have HF := Lib.hid (filtK_yes e1)
          rw [e1]
          clear e1
          go_wp2_with (at_builtin; refine wpList_push rfl (.tmp 20) (.tmp 22) rfl (k : Int) rfl (hown.alloc _) ⟨w3.heap.size, 0, none⟩ rfl hcell (by omega) (by simp; omega) ?_; intro A' c' w5 hown5 hb5 hg5)
          go_roundw
          case rel => exact ⟨k + 1, A', c', by omega, by go_num, by rw [HF.out, ← push_len], hown5.cast (by rw [HF.out, ← push_len]) (by rw [HF.out, ints_snoc]), (hown.alloc _).keeps hg5 (hblk.alloc _) (by decide), (hw3.alloc hsz _).trans hb5⟩
          case measure => simp [intOf]; omega
        · have HF := Lib.hid (filtK_no e1)
          rw [e1]
          clear e1
          go_wp2
          go_roundw
          case rel => exact ⟨k + 1, B, d, by omega, by go_num, by rw [HF.out], hown.cast (by rw [HF.out]) (by rw [HF.out]), hblk, hw3⟩
          case measure => simp [intOf]; omega
      · obtain rfl : k = p2 n := by omega
        go_wp2
        go_ret
        exact givesI_of (l := filtK (minSep Q n) (2 ^ n)) hown hw1
end Go.Proofs.YthncdjcmlpiebaaGreatDoor
namespace Go.Proofs.YthncdjcmlpiebaaGreatDoor
open Go.RowKit
/-- Bag i is the topmost one with v. -/
def topAt (b : List Nat) (P : List Int) (v i : Nat) : Bool := (nb b i).testBit v && (decide (i = 0) || !(nb b (P.getD i 0).toNat).testBit v)
def tops (b : List Nat) (P : List Int) (v : Nat) : Nat → Nat
  | 0 => 0
  | k + 1 => tops b P v k + if topAt b P v k then 1 else 0
set_option maxRecDepth 100000 in
theorem tops_yes {b : List Nat} {P : List Int} {v k : Nat} (h : topAt b P v k = true) : tops b P v (k + 1) = tops b P v k + 1 := by rw [tops, if_pos h]
set_option maxRecDepth 100000 in
theorem tops_no {b : List Nat} {P : List Int} {v k : Nat} (h : topAt b P v k = false) : tops b P v (k + 1) = tops b P v k := by rw [tops, h]; rfl
set_option maxRecDepth 100000 in
theorem tops_le (b : List Nat) (P : List Int) (v : Nat) : ∀ k, tops b P v k ≤ k
  | 0 => Nat.le_refl _
  | k + 1 => by have := tops_le b P v k; rw [tops]; split <;> omega
def hang (b : List Nat) (P : List Int) (v : Nat) : Bool := decide (tops b P v b.length ≤ 1)
def joinAll (b : List Nat) (P : List Int) (n : Nat) : Bool := (List.range n).all (hang b P)
set_option maxRecDepth 100000 in
theorem joinAll_true {b : List Nat} {P : List Int} {n : Nat} (h : ∀ v, v < n → hang b P v = true) : joinAll b P n = true := by
  rw [joinAll, List.all_eq_true]
  exact fun v hv => h v (List.mem_range.1 hv)
set_option maxRecDepth 100000 in
theorem joinAll_false {b : List Nat} {P : List Int} {n v : Nat} (hv : v < n) (h : hang b P v = false) : joinAll b P n = false := by
  rw [joinAll, List.all_eq_false]
  exact ⟨v, List.mem_range.2 hv, by rw [h]; exact Bool.false_ne_true⟩
set_option maxRecDepth 100000 in
theorem tops_none {b : List Nat} {P : List Int} {v : Nat} (h : ∀ j, (nb b j).testBit v = false) : ∀ k, tops b P v k = 0
  | 0 => rfl
  | k + 1 => by rw [tops_no (by rw [topAt, h]; rfl), tops_none h k]
set_option maxRecDepth 100000 in
/-- Vertices behind n are in no bag. -/
theorem joinAll_more {b : List Nat} {P : List Int} {n : Nat} (hn : n ≤ 7) (hb : ∀ j, nb b j < 2 ^ n) : joinAll b P n = joinAll b P 7 := by
  rcases Bool.eq_false_or_eq_true (joinAll b P n) with e | e
  · rw [e]
    symm
    refine joinAll_true fun v _ => ?_
    rcases Nat.lt_or_ge v n with h | h
    · rw [joinAll, List.all_eq_true] at e
      exact e v (List.mem_range.2 h)
    · rw [hang, tops_none fun j => Nat.testBit_lt_two_pow (Nat.lt_of_lt_of_le (hb j) (Nat.pow_le_pow_right (by omega) h))]
      rfl
  · rw [e]
    rw [joinAll, List.all_eq_false] at e
    obtain ⟨v, hv, h⟩ := e
    exact (joinAll_false (Nat.lt_of_lt_of_le (List.mem_range.1 hv) hn) (by simpa using h)).symm
set_option maxRecDepth 100000 in
theorem has_up8 {s v : Nat} {w : World} {b : Bool} (hs : s < 128) (hv : v < 7) (h : s.testBit v = b) : Calls Tryz.prog 131 #[.int .i64 s, .int .i64 v] w fun e w' => e = .returned (.bool b) ∧ Below w.heap.size w w' :=
  (has_is (by omega) (by omega) h).mono fun _ _ k => ⟨k.1, by rw [k.2]; exact Below.refl _ _⟩
set_option maxRecDepth 100000 in
set_option maxHeartbeats 4000000 in
theorem hangs_any (A B : Option Addr) (ca cb v : Nat) (b : List Nat) (R : List Int) (w : World) (hT : isTree (ints b) R = true) (hb128 : ∀ j, nb b j < 128) (hb20 : b.length ≤ 20) (hL : RI w A b.length (ints b)) (hR : RI w B b.length R) (hv : v < 7) :
    Calls Tryz.prog 90 #[.agg #[.slice A b.length ca, .slice B b.length cb], .int .i64 v] w fun e w' => e = .returned (.bool (hang b R v)) ∧ Below w.heap.size w w' := by
  have hbk := Blk.new w 49 #[.slice A b.length ca, .slice B b.length cb]
  have hU0 : Up w (w.alloc (.cells #[.slice A b.length ca, .slice B b.length cb] 49)) := by go_grown
  have HP := Lib.hid (fun (i : Nat) (h0 : 0 < i) (hi : i < b.length) => parent_nat hT h0 hi)
  have HB := Lib.hid hb128
  have HLE := Lib.hid (tops_le b R v)
  have hy0 := hbk.two
  clear hT hb128
  go_enter Tryz.func90, Tryz.ntmps90
  go_wp2_with fail
  go_loopw [5, 11] (fun s i wr => ∃ k : Nat, k ≤ b.length ∧ i = .int .i64 (k : Nat) ∧ s = .int .i64 (tops b R v k : Nat) ∧ Blk wr w.heap.size 49 #[.slice A b.length ca, .slice B b.length cb] ∧ Up w wr) (fun _ i _ => b.length - (intOf i).toNat)
  case atStart => exact ⟨0, Nat.zero_le _, rfl, rfl, hbk, hU0⟩
  case round =>
    clear hbk hU0 hy0
    obtain ⟨k, hk, rfl, rfl, hbk, hb⟩ := hrel
    obtain ⟨wo, rfl⟩ : ∃ wo : World, wo = wr := ⟨_, rfl⟩
    by_cases hkt : k < b.length
    · obtain ⟨a, rfl, hca⟩ := (hL.up hb).ints_at hkt
      have hab : a.block < wo.heap.size := by have := World.block_lt_of_cell? wo _ hca; rwa [block_of_add] at this
      have hx7 := HB.out k
      have HTA := Lib.hid (show topAt b R v k = ((nb b k).testBit v && (decide (k = 0) || !(nb b (R.getD k 0).toNat).testBit v)) from rfl)
      have HY := Lib.hid (tops_yes (b := b) (P := R) (v := v) (k := k))
      have HN := Lib.hid (tops_no (b := b) (P := R) (v := v) (k := k))
      obtain ⟨x, hx⟩ : ∃ x, x = nb b k := ⟨_, rfl⟩
      rw [← hx] at hx7 hca HTA
      obtain ⟨t, ht⟩ : ∃ t, t = tops b R v k := ⟨_, rfl⟩
      have htl : t ≤ k := by rw [ht]; exact HLE.out k
      rw [← ht] at HY HN ⊢
      clear hx ht
      obtain ⟨e1, he1⟩ : ∃ e, e = x.testBit v := ⟨_, rfl⟩
      have H1 := Lib.hid he1.symm
      clear he1
      have hbl := hbk.lt
      have hbc0 := hbk.two.1
      have hbc1 := hbk.two.2
      cases e1
      · have HR := Lib.hid (HN.out (by rw [HTA.out, H1.out]; rfl))
        go_wp2
        go_wp2
        have hV0 : Up wo wo.drew := (Up.refl _).drew
        refine wp_region_calm (S := (fun w' => Up wo w' ∧ (∀ b o, b < wo.heap.size → w'.cell? ⟨b, o, none⟩ = wo.cell? ⟨b, o, none⟩))) (by kernel_rfl) (by kernel_rfl) (by exact ⟨hV0, fun _ _ hb => hV0.cell hb⟩) ?_
        repeat (first | (refine CalmSeq.cons undef (Calm.off (by rfl)) ?_; (try simp only [Act.put, List.setIfInBounds_toArray, List.set_cons_zero, List.set_cons_succ])) | (refine CalmSeq.cons ?_ (Calm.val (by rfl) ?_) ?_; rotate_left; (intro wC hSw; (try dsimp only at hSw); go_simp; done); (try simp only [Act.put, List.setIfInBounds_toArray, List.set_cons_zero, List.set_cons_succ])) | (refine CalmSeq.cons ?_ (Calm.val (by rfl) ?_) ?_; rotate_left; (intro wC hSw; (try dsimp only at hSw); go_simp; with_reducible rfl); (try simp only [Act.put, List.setIfInBounds_toArray, List.set_cons_zero, List.set_cons_succ])) | ((refine CalmSeq.cons ?_ (Calm.call (f := ?_) (args := ?_) (by rfl) ?_ (fun wC hSw => ?_)) ?_; rotate_left 3; (intro wC; go_simp; (refine ⟨?_, ?_⟩ <;> with_reducible rfl)); (go_at_call 131; (with_reducible refine (has_up8 hx7 hv H1.out).mono ?_); rintro e wD ⟨rfl, hbD⟩; apply And.intro; (with_reducible rfl); (have hUD := Up.then_ hSw.1 hbD; exact ⟨hUD, fun _ _ hb => hUD.cell hb⟩))); (try simp only [Act.put, List.setIfInBounds_toArray, List.set_cons_zero, List.set_cons_succ])))
        intro w2 hS2
        have hU2 : Up wo w2 := hS2.1
        clear hS2 hV0
        have hbk2 := hbk.up hU2
        go_wp2
        go_roundw
        case rel => exact ⟨k + 1, by omega, by go_num, by rw [HR.out], hbk2, Up.then_ hb hU2⟩
        case measure => simp [intOf]; omega
      · rcases Nat.eq_zero_or_pos k with hk0 | hk0
        · have HR := Lib.hid (HY.out (by rw [HTA.out, H1.out, hk0]; rfl))
          have z0 : ((k : Int) == 0) = true := by rw [beq_iff_eq]; omega
          clear hk0
          go_wp2
          go_wp2
          have hV0 : Up wo wo.drew := (Up.refl _).drew
          refine wp_region_calm (S := (fun w' => Up wo w' ∧ (∀ b o, b < wo.heap.size → w'.cell? ⟨b, o, none⟩ = wo.cell? ⟨b, o, none⟩))) (by kernel_rfl) (by kernel_rfl) (by exact ⟨hV0, fun _ _ hb => hV0.cell hb⟩) ?_
          repeat (first | (refine CalmSeq.cons undef (Calm.off (by rfl)) ?_; (try simp only [Act.put, List.setIfInBounds_toArray, List.set_cons_zero, List.set_cons_succ])) | (refine CalmSeq.cons ?_ (Calm.val (by rfl) ?_) ?_; rotate_left; (intro wC hSw; (try dsimp only at hSw); go_simp; done); (try simp only [Act.put, List.setIfInBounds_toArray, List.set_cons_zero, List.set_cons_succ])) | (refine CalmSeq.cons ?_ (Calm.val (by rfl) ?_) ?_; rotate_left; (intro wC hSw; (try dsimp only at hSw); go_simp; with_reducible rfl); (try simp only [Act.put, List.setIfInBounds_toArray, List.set_cons_zero, List.set_cons_succ])) | ((refine CalmSeq.cons ?_ (Calm.call (f := ?_) (args := ?_) (by rfl) ?_ (fun wC hSw => ?_)) ?_; rotate_left 3; (intro wC; go_simp; (refine ⟨?_, ?_⟩ <;> with_reducible rfl)); (go_at_call 131; (with_reducible refine (has_up8 hx7 hv H1.out).mono ?_); rintro e wD ⟨rfl, hbD⟩; apply And.intro; (with_reducible rfl); (have hUD := Up.then_ hSw.1 hbD; exact ⟨hUD, fun _ _ hb => hUD.cell hb⟩))); (try simp only [Act.put, List.setIfInBounds_toArray, List.set_cons_zero, List.set_cons_succ])))
          intro w2 hS2
          have hU2 : Up wo w2 := hS2.1
          clear hS2 hV0
          have hbk2 := hbk.up hU2
          go_wp2
          go_roundw
          case rel => exact ⟨k + 1, by omega, by go_num, by rw [HR.out]; go_num, hbk2, Up.then_ hb hU2⟩
          case measure => simp [intOf]; omega
        · obtain ⟨q, hq, hqk, hqn⟩ := HP.out k hk0 hkt
          have z0 : ((k : Int) == 0) = false := by rw [beq_eq_false_iff_ne]; omega
          obtain ⟨a', e, hcq⟩ := (hL.up hb).ints_at (show q < b.length by omega)
          injection e with e
          subst e
          obtain ⟨r, rfl, hrb, hcr⟩ := (hR.up hb).at_ hkt
          rw [hq] at hcr
          have hy7 := HB.out q
          rw [hqn] at HTA
          obtain ⟨y, hy⟩ : ∃ y, y = nb b q := ⟨_, rfl⟩
          rw [← hy] at hy7 hcq HTA
          have hqm : q < b.length := by omega
          clear hy hq hqn
          obtain ⟨e2, he2⟩ : ∃ e, e = y.testBit v := ⟨_, rfl⟩
          have H2 := Lib.hid he2.symm
          have hk0f := decide_eq_false (show ¬ k = 0 by omega)
          have HT2 := Lib.hid (show topAt b R v k = !e2 by rw [HTA.out, H1.out, H2.out, hk0f]; rfl)
          clear he2 hk0f hk0
          cases e2
          · have HR := Lib.hid (HY.out (by rw [HT2.out]; rfl))
            go_wp2
            go_wp2
            have hV0 : Up wo wo.drew := (Up.refl _).drew
            refine wp_region_calm (S := (fun w' => Up wo w' ∧ (∀ b o, b < wo.heap.size → w'.cell? ⟨b, o, none⟩ = wo.cell? ⟨b, o, none⟩) ∧ w'.cell? (⟨w.heap.size, 0, none⟩) = some (.slice (some a) b.length ca) ∧ w'.cell? (⟨w.heap.size, 1, none⟩) = some (.slice (some r) b.length cb) ∧ w'.cell? (r.add k) = some (.int .i64 q) ∧ w'.cell? (a.add q) = some (.int .i64 y))) (by kernel_rfl) (by kernel_rfl) (by exact ⟨hV0, fun _ _ hb => hV0.cell hb, (hV0.cell (by first | assumption | (rw [block_of_add]; assumption))).trans (by assumption), (hV0.cell (by first | assumption | (rw [block_of_add]; assumption))).trans (by assumption), (hV0.cell (by first | assumption | (rw [block_of_add]; assumption))).trans (by assumption), (hV0.cell (by first | assumption | (rw [block_of_add]; assumption))).trans (by assumption)⟩) ?_
            repeat (first | (refine CalmSeq.cons undef (Calm.off (by rfl)) ?_; (try simp only [Act.put, List.setIfInBounds_toArray, List.set_cons_zero, List.set_cons_succ])) | (refine CalmSeq.cons ?_ (Calm.val (by rfl) ?_) ?_; rotate_left; (intro wC hSw; (try dsimp only at hSw); go_simp; done); (try simp only [Act.put, List.setIfInBounds_toArray, List.set_cons_zero, List.set_cons_succ])) | (refine CalmSeq.cons ?_ (Calm.val (by rfl) ?_) ?_; rotate_left; (intro wC hSw; (try dsimp only at hSw); go_simp; with_reducible rfl); (try simp only [Act.put, List.setIfInBounds_toArray, List.set_cons_zero, List.set_cons_succ])) | ((refine CalmSeq.cons ?_ (Calm.call (f := ?_) (args := ?_) (by rfl) ?_ (fun wC hSw => ?_)) ?_; rotate_left 3; (intro wC; go_simp; (refine ⟨?_, ?_⟩ <;> with_reducible rfl)); (go_at_call 131; (with_reducible refine (has_up8 hx7 hv H1.out).mono ?_); rintro e wD ⟨rfl, hbD⟩; apply And.intro; (with_reducible rfl); (have hUD := Up.then_ hSw.1 hbD; exact ⟨hUD, fun _ _ hb => hUD.cell hb, (hUD.cell (by first | assumption | (rw [block_of_add]; assumption))).trans (by assumption), (hUD.cell (by first | assumption | (rw [block_of_add]; assumption))).trans (by assumption), (hUD.cell (by first | assumption | (rw [block_of_add]; assumption))).trans (by assumption), (hUD.cell (by first | assumption | (rw [block_of_add]; assumption))).trans (by assumption)⟩))); (try simp only [Act.put, List.setIfInBounds_toArray, List.set_cons_zero, List.set_cons_succ])) | ((refine CalmSeq.cons ?_ (Calm.call (f := ?_) (args := ?_) (by rfl) ?_ (fun wC hSw => ?_)) ?_; rotate_left 3; (intro wC; go_simp; (refine ⟨?_, ?_⟩ <;> with_reducible rfl)); (go_at_call 131; (with_reducible refine (has_up8 hy7 hv H2.out).mono ?_); rintro e wD ⟨rfl, hbD⟩; apply And.intro; (with_reducible rfl); (have hUD := Up.then_ hSw.1 hbD; exact ⟨hUD, fun _ _ hb => hUD.cell hb, (hUD.cell (by first | assumption | (rw [block_of_add]; assumption))).trans (by assumption), (hUD.cell (by first | assumption | (rw [block_of_add]; assumption))).trans (by assumption), (hUD.cell (by first | assumption | (rw [block_of_add]; assumption))).trans (by assumption), (hUD.cell (by first | assumption | (rw [block_of_add]; assumption))).trans (by assumption)⟩))); (try simp only [Act.put, List.setIfInBounds_toArray, List.set_cons_zero, List.set_cons_succ])))
            intro w2 hS2
            have hU2 : Up wo w2 := hS2.1
            clear hS2 hV0
            have hbk2 := hbk.up hU2
            go_wp2
            go_roundw
            case rel => exact ⟨k + 1, by omega, by go_num, by rw [HR.out]; go_num, hbk2, Up.then_ hb hU2⟩
            case measure => simp [intOf]; omega
          · have HR := Lib.hid (HN.out (by rw [HT2.out]; rfl))
            go_wp2
            go_wp2
            have hV0 : Up wo wo.drew := (Up.refl _).drew
            refine wp_region_calm (S := (fun w' => Up wo w' ∧ (∀ b o, b < wo.heap.size → w'.cell? ⟨b, o, none⟩ = wo.cell? ⟨b, o, none⟩) ∧ w'.cell? (⟨w.heap.size, 0, none⟩) = some (.slice (some a) b.length ca) ∧ w'.cell? (⟨w.heap.size, 1, none⟩) = some (.slice (some r) b.length cb) ∧ w'.cell? (r.add k) = some (.int .i64 q) ∧ w'.cell? (a.add q) = some (.int .i64 y))) (by kernel_rfl) (by kernel_rfl) (by exact ⟨hV0, fun _ _ hb => hV0.cell hb, (hV0.cell (by first | assumption | (rw [block_of_add]; assumption))).trans (by assumption), (hV0.cell (by first | assumption | (rw [block_of_add]; assumption))).trans (by assumption), (hV0.cell (by first | assumption | (rw [block_of_add]; assumption))).trans (by assumption), (hV0.cell (by first | assumption | (rw [block_of_add]; assumption))).trans (by assumption)⟩) ?_
            repeat (first | (refine CalmSeq.cons undef (Calm.off (by rfl)) ?_; (try simp only [Act.put, List.setIfInBounds_toArray, List.set_cons_zero, List.set_cons_succ])) | (refine CalmSeq.cons ?_ (Calm.val (by rfl) ?_) ?_; rotate_left; (intro wC hSw; (try dsimp only at hSw); go_simp; done); (try simp only [Act.put, List.setIfInBounds_toArray, List.set_cons_zero, List.set_cons_succ])) | (refine CalmSeq.cons ?_ (Calm.val (by rfl) ?_) ?_; rotate_left; (intro wC hSw; (try dsimp only at hSw); go_simp; with_reducible rfl); (try simp only [Act.put, List.setIfInBounds_toArray, List.set_cons_zero, List.set_cons_succ])) | ((refine CalmSeq.cons ?_ (Calm.call (f := ?_) (args := ?_) (by rfl) ?_ (fun wC hSw => ?_)) ?_; rotate_left 3; (intro wC; go_simp; (refine ⟨?_, ?_⟩ <;> with_reducible rfl)); (go_at_call 131; (with_reducible refine (has_up8 hx7 hv H1.out).mono ?_); rintro e wD ⟨rfl, hbD⟩; apply And.intro; (with_reducible rfl); (have hUD := Up.then_ hSw.1 hbD; exact ⟨hUD, fun _ _ hb => hUD.cell hb, (hUD.cell (by first | assumption | (rw [block_of_add]; assumption))).trans (by assumption), (hUD.cell (by first | assumption | (rw [block_of_add]; assumption))).trans (by assumption), (hUD.cell (by first | assumption | (rw [block_of_add]; assumption))).trans (by assumption), (hUD.cell (by first | assumption | (rw [block_of_add]; assumption))).trans (by assumption)⟩))); (try simp only [Act.put, List.setIfInBounds_toArray, List.set_cons_zero, List.set_cons_succ])) | ((refine CalmSeq.cons ?_ (Calm.call (f := ?_) (args := ?_) (by rfl) ?_ (fun wC hSw => ?_)) ?_; rotate_left 3; (intro wC; go_simp; (refine ⟨?_, ?_⟩ <;> with_reducible rfl)); (go_at_call 131; (with_reducible refine (has_up8 hy7 hv H2.out).mono ?_); rintro e wD ⟨rfl, hbD⟩; apply And.intro; (with_reducible rfl); (have hUD := Up.then_ hSw.1 hbD; exact ⟨hUD, fun _ _ hb => hUD.cell hb, (hUD.cell (by first | assumption | (rw [block_of_add]; assumption))).trans (by assumption), (hUD.cell (by first | assumption | (rw [block_of_add]; assumption))).trans (by assumption), (hUD.cell (by first | assumption | (rw [block_of_add]; assumption))).trans (by assumption), (hUD.cell (by first | assumption | (rw [block_of_add]; assumption))).trans (by assumption)⟩))); (try simp only [Act.put, List.setIfInBounds_toArray, List.set_cons_zero, List.set_cons_succ])))
            intro w2 hS2
            have hU2 : Up wo w2 := hS2.1
            clear hS2 hV0
            have hbk2 := hbk.up hU2
            go_wp2
            go_roundw
            case rel => exact ⟨k + 1, by omega, by go_num, by rw [HR.out], hbk2, Up.then_ hb hU2⟩
            case measure => simp [intOf]; omega
    · obtain rfl : k = b.length := by omega
      have HR := Lib.hid (show hang b R v = decide (tops b R v b.length ≤ 1) from rfl)
      obtain ⟨t, ht⟩ : ∃ t, t = tops b R v b.length := ⟨_, rfl⟩
      rw [← ht] at HR ⊢
      clear ht
      by_cases h1 : t ≤ 1
      · have d1 : decide ((t : Int) ≤ 1) = true := decide_eq_true (by omega)
        have HQ := Lib.hid (show hang b R v = true by rw [HR.out]; exact decide_eq_true h1)
        go_wp2
        go_ret
        exact ⟨ret_bool HQ.out.symm, hb⟩
      · have d1 : decide ((t : Int) ≤ 1) = false := decide_eq_false (by omega)
        have HQ := Lib.hid (show hang b R v = false by rw [HR.out]; exact decide_eq_false h1)
        go_wp2
        go_ret
        exact ⟨ret_bool HQ.out.symm, hb⟩
end Go.Proofs.YthncdjcmlpiebaaGreatDoor
