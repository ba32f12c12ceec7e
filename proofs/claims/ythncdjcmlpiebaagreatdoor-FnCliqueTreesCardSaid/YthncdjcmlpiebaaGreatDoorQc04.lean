/- Walks of chapter 7: cliques, the largest sets, the maximal cliques. Walks of chapter 7, second part. Walks of chapter 7: colorings; an edge read by the reference. Walks of chapter 7: the maximal cliques. Walks of chapter 7: the reference's maximal cliques. Walks of chapters 4 and 5: lists of different vertices, orders. The library's IndexFunc and ContainsFunc on numbers, whatever the predicate; Reverse. Walks of chapter 12: umbrella orders. Walks of chapter 12: the first umbrella order. Walks of chapter 12: the first umbrella order, the program's search. -/
import Derived.Test.YthncdjcmlpiebaaGreatDoorQc01
import Derived.Test.YthncdjcmlpiebaaGreatDoorQc02
import Derived.Test.YthncdjcmlpiebaaGreatDoorQc03
import Derived.ArgAppend
import Derived.Laws.EntriesVeiled
namespace Go.Proofs.YthncdjcmlpiebaaGreatDoor
open Go.RowKit

set_option maxRecDepth 100000 in
theorem clq_all {n s : Nat} {Q : List Nat} (hs : s < 2 ^ n) (h : ∀ v, v < n → s.testBit v = true → clqAt Q s v = true) : clq Q s = true := by
  rw [clq_iff]
  exact fun v _ hb => h v (bit_lt hs hb) hb
set_option maxRecDepth 100000 in
theorem clq_at_no {n s v : Nat} {Q : List Nat} (h7 : n ≤ 7) (hv : v < n) (hb : s.testBit v = true) (h : clqAt Q s v = false) : clq Q s = false := clq_false (mem_listOf.2 ⟨by omega, hb⟩) h
set_option maxRecDepth 100000 in
set_option maxHeartbeats 800000 in
theorem specIsClique_ok {A : Option Addr} {n c s : Nat} {Q : List Nat} {w : World} (hX : RI w A n (ints Q)) (h : GOk n Q) (hs : s < 2 ^ n) :
    Calls Tryz.prog 120 #[.agg #[.int .i64 n, .slice A n c], .int .i64 s] w fun e w' => e = .returned (.bool (clq Q s)) ∧ Below w.heap.size w w' := by
  have hn7 := h.le
  have hs7 := h.n7 hs
  go_enter Tryz.func120, Tryz.ntmps120
  go_wp2_with fail
  refine (specIsSet_ok (hX.up (by go_grown)) h hs).mono ?_
  rintro e w1 ⟨rfl, hb1⟩
  have hw1 : Below w.heap.size w w1 := Up.then_ (by go_grown) hb1
  obtain ⟨hc1, hf1⟩ := bcell hb1
  have hz1 := hb1.size
  try simp only [World.size_alloc] at hz1
  try simp only [World.size_setCell] at hz1
  try simp only [World.size_alloc] at hz1
  try simp only [World.size_drew] at hz1
  have hl1_0 : w.heap.size < w1.heap.size := by omega
  have hblk0 := (Blk.new w 29 #[.int .i64 n, .slice A n c]).up hb1
  clear hc1 hf1
  go_wp2_with fail
  go_loopw [5] (fun i wr => ∃ k : Nat, k ≤ n ∧ i = .int .i64 k ∧ Below w1.heap.size w1 wr ∧ Hid (∀ j, j < k → s.testBit j = true → clqAt Q s j = true)) (fun i _ => n - (intOf i).toNat)
  case atStart => exact ⟨0, Nat.zero_le _, rfl, Below.refl _ _, fun j h => absurd h (by omega)⟩
  case round =>
    obtain ⟨k, hk, rfl, hb, hall⟩ := hrel
    have hblk := hblk0.up hb
    have hwr := Up.then_ hw1 hb
    obtain ⟨hx0, hx1⟩ := hblk.two
    by_cases hlt : k < n
    · obtain ⟨a, rfl, hca⟩ := (hX.up hwr).nb_at hlt
      have hbit := bit_one s k (by omega)
      rcases Bool.eq_false_or_eq_true (s.testBit k) with e1 | e1
      · have H1 := Lib.hid e1
        rw [e1] at hbit
        clear e1
        have hand := i64_and7 (h.nb7 k) hs7
        have hsh := shl_p2 (k := k) (by omega)
        have hle : p2 k ≤ s := (sub_bit H1.out).1
        rcases Bool.eq_false_or_eq_true (clqAt Q s k) with e2 | e2
        · have H2 := Lib.hid e2
          have hne : (((nb Q k &&& s : Nat) : Int)) = (s : Int) - (p2 k : Int) := by
            rw [clqAt_ref h H1.out, beq_iff_eq] at e2
            have : s - 2 ^ k = s - p2 k := rfl
            omega
          rw [hne] at hand
          clear e2 hne
          go_wp2_with fail
          go_quiet (fail)
          go_wp2
          go_roundw
          case rel => exact ⟨k + 1, by omega, by go_num, below_drewN hb _, fun j hj => by
            rcases Nat.lt_succ_iff_lt_or_eq.1 hj with h' | rfl
            · exact hall.out j h'
            · exact fun _ => H2.out⟩
          case measure => simp [intOf]; omega
        · have Hno := Lib.hid (clq_at_no hn7 hlt H1.out e2)
          have hne : (((nb Q k &&& s : Nat) : Int) != (s : Int) - (p2 k : Int)) = true := by
            rw [clqAt_ref h H1.out, beq_eq_false_iff_ne] at e2
            rw [bne_iff_ne]
            have : s - 2 ^ k = s - p2 k := rfl
            omega
          clear e2
          go_wp2_with fail
          go_quiet (fail)
          go_wp2
          go_ret
          exact ⟨ret_bool Hno.out.symm, below_drewN hwr _⟩
      · have H1 := Lib.hid e1
        rw [e1] at hbit
        clear e1
        go_wp2_with fail
        go_quiet (fail)
        go_wp2
        go_roundw
        case rel => exact ⟨k + 1, by omega, by go_num, below_drewN hb _, fun j hj => by
          rcases Nat.lt_succ_iff_lt_or_eq.1 hj with h' | rfl
          · exact hall.out j h'
          · exact fun hh => absurd (H1.out.symm.trans hh) Bool.false_ne_true⟩
        case measure => simp [intOf]; omega
    · obtain rfl : k = n := by omega
      go_wp2
      go_ret
      exact ⟨ret_bool (clq_all hs hall.out).symm, hwr⟩
set_option maxRecDepth 100000 in
theorem isGraph_cases (N : Int) (X : List Int) : (isGraph N X = false) ∨ ∃ (k : Nat) (Q : List Nat), N = k ∧ X = ints Q ∧ GOk k Q := by
  rcases Bool.eq_false_or_eq_true (isGraph N X) with h | h
  · exact .inr (isGraph_ok h)
  · exact .inl h
set_option maxRecDepth 100000 in
theorem nats_ints (Q : List Nat) : (ints Q).map Int.toNat = Q := by simp [ints, List.map_map, Function.comp_def]
end Go.Proofs.YthncdjcmlpiebaaGreatDoor
namespace Go.Proofs.YthncdjcmlpiebaaGreatDoor
open Go.RowKit

end Go.Proofs.YthncdjcmlpiebaaGreatDoor
namespace Go.Proofs.YthncdjcmlpiebaaGreatDoor
open Go.RowKit

set_option maxRecDepth 100000 in
theorem l2Edge_is {N : Int} {A : Option Addr} {n c v x : Nat} {Q : List Nat} {w : World} {b : Bool} (hX : RI w A n (ints Q)) (h : GOk n Q) (hv : v < n) (hx : x < n) (hb : (nb Q v).testBit x = b) :
    Calls Tryz.prog 112 #[.agg #[.int .i64 N, .slice A n c], .int .i64 v, .int .i64 x] w fun e w' => e = .returned (.bool b) ∧ Below w.heap.size w w' := by
  subst hb
  have hn7 := h.le
  obtain ⟨a, rfl, hca⟩ := hX.nb_after hv
  have hr := h.nb7 v
  have hbit := bit_one (nb Q v) x (by omega)
  go_enter Tryz.func112, Tryz.ntmps112
  go_wp2
  go_ret
  exact ⟨rfl, by go_grown⟩
end Go.Proofs.YthncdjcmlpiebaaGreatDoor
namespace Go.Proofs.YthncdjcmlpiebaaGreatDoor
open Go.RowKit

def maxCliquesOf (N : Int) (X : List Int) : List Nat := if isGraph N X then maxCliques (X.map Int.toNat) N.toNat else []
set_option maxRecDepth 100000 in
theorem maxCliquesOf_no {N : Int} {X : List Int} (h : isGraph N X = false) : maxCliquesOf N X = [] := by rw [maxCliquesOf, h]; rfl
set_option maxRecDepth 100000 in
theorem maxCliquesOf_ok {n : Nat} {Q : List Nat} (h : GOk n Q) : maxCliquesOf n (ints Q) = maxCliques Q n := by rw [maxCliquesOf, if_pos h.is, nats_ints, Int.toNat_natCast]
set_option maxRecDepth 100000 in
theorem standsK_yes {Q : List Nat} {s v : Nat} (h : standsK Q s v = true) (k : stands Q s v = true) : standsK Q s (v + 1) = true := by rw [standsK, h, k]; rfl
set_option maxRecDepth 100000 in
theorem standsK_no {Q : List Nat} {s v : Nat} (k : stands Q s v = false) : standsK Q s (v + 1) = false := by rw [standsK, k]; simp
set_option maxRecDepth 100000 in
theorem standsK_off {Q : List Nat} {s v : Nat} (h : standsK Q s v = false) : standsK Q s (v + 1) = false := by rw [standsK, h]; rfl
set_option maxRecDepth 100000 in
theorem stands_in {Q : List Nat} {s v : Nat} (h : s.testBit v = true) : stands Q s v = true := by rw [stands, h]; rfl
set_option maxRecDepth 100000 in
theorem stands_out {Q : List Nat} {s v : Nat} (h : s.testBit v = false) : stands Q s v = (dif s (nb Q v) != 0) := by rw [stands, h]; rfl
set_option maxRecDepth 100000 in
theorem maxCliques_len (Q : List Nat) {n : Nat} (h : n ≤ 7) : (maxCliques Q n).length ≤ 128 := by
  have h1 := maxK_len Q n (2 ^ n - 1)
  have h2 := pow_le7 h
  unfold maxCliques
  omega
set_option maxRecDepth 100000 in
set_option maxHeartbeats 2000000 in
theorem implMaximalCliques_any (N : Int) (A : Option Addr) (n c : Nat) (X : List Int) (w : World) (hX : RI w A n X) (hn : n ≤ 9223372036854775807) :
    Calls Tryz.prog 80 #[.agg #[.int .i64 N, .slice A n c]] w (GivesI (ints (maxCliquesOf N X)) w) := by
  rcases isGraph_cases N X with hg | ⟨k, Q, rfl, rfl, h⟩
  · have Hg := Lib.hid hg
    rw [maxCliquesOf_no hg]
    clear hg
    have hown0 : OwnI ((w.alloc (.cells #[.int .i64 N, .slice A n c] 29)).alloc (.cells #[] 3)) w.heap.size (some ⟨w.heap.size + 1, 0, none⟩) 0 0 [] := by
      have hh := OwnI.made (base := w.heap.size) (w.alloc (.cells #[.int .i64 N, .slice A n c] 29)) (by simp)
      have e : (w.alloc (.cells #[.int .i64 N, .slice A n c] 29)).heap.size = w.heap.size + 1 := by simp
      rw [e] at hh
      exact hh
    go_enter Tryz.func80, Tryz.ntmps80
    go_wp2_with fail
    refine (implIsGraph_is (hX.up (by go_grown)) hn Hg.out).mono ?_
    rintro e w1 ⟨rfl, hb1⟩
    have hw1 : Below w.heap.size w w1 := Up.then_ (by go_grown) hb1
    replace hown0 := hown0.up hb1
    go_wp2
    go_ret
    exact givesI_of (l := []) (hown0.cast rfl rfl) hw1
  · obtain rfl : n = k := by rw [← hX.1, ints_len, h.len]
    rw [maxCliquesOf_ok h]
    have hn7 := h.le
    have hp1 := p2_le hn7
    have hp2 := p2_pos n
    have hown0 : OwnI ((w.alloc (.cells #[.int .i64 n, .slice A n c] 29)).alloc (.cells #[] 3)) w.heap.size (some ⟨w.heap.size + 1, 0, none⟩) 0 0 [] := by
      have hh := OwnI.made (base := w.heap.size) (w.alloc (.cells #[.int .i64 n, .slice A n c] 29)) (by simp)
      have e : (w.alloc (.cells #[.int .i64 n, .slice A n c] 29)).heap.size = w.heap.size + 1 := by simp
      rw [e] at hh
      exact hh
    go_enter Tryz.func80, Tryz.ntmps80
    go_wp2_with fail
    refine (implIsGraph_is (hX.up (by go_grown)) hn h.is).mono ?_
    rintro e w1 ⟨rfl, hb1⟩
    have hw1 : Below w.heap.size w w1 := Up.then_ (by go_grown) hb1
    replace hown0 := hown0.up hb1
    have hblk0 := ((Blk.new w 29 #[.int .i64 n, .slice A n c]).alloc (.cells #[] 3)).up hb1
    go_wp2_with fail
    go_loopw [3, 4] (fun v i wr => ∃ (k : Nat) (B : Option Addr) (d : Nat), k + 1 ≤ p2 n ∧ i = .int .i64 ((k : Int) + 1) ∧ v = .slice B (maxK Q n k).length d ∧ OwnI wr w.heap.size B (maxK Q n k).length d (ints (maxK Q n k)) ∧ Blk wr w.heap.size 29 #[.int .i64 n, .slice A n c] ∧ Below w.heap.size w wr) (fun _ i _ => p2 n - (intOf i).toNat)
    case atStart => exact ⟨0, _, _, by omega, rfl, rfl, hown0.cast rfl rfl, hblk0, hw1⟩
    case round =>
      obtain ⟨k, B, d, hk, rfl, rfl, hown, hblk, hwr⟩ := hrel
      obtain ⟨wo, rfl⟩ : ∃ wo : World, wo = wr := ⟨_, rfl⟩
      have hml := maxK_len Q n k
      have hyb := hblk.two
      go_wp2_with fail
      refine (all_any n A c n _ hn7).mono ?_
      rintro e w2 ⟨rfl, hb2⟩
      have hw2 := Up.then_ hwr hb2
      replace hblk := hblk.up hb2
      replace hyb := hblk.two
      replace hown := hown.up hb2
      by_cases hlt : k + 1 < p2 n
      · have hs : k + 1 < 2 ^ n := hlt
        have hs7 := h.n7 hs
        have e1 : Hid (((k : Int) + 1) = ((k + 1 : Nat) : Int)) := (by omega : ((k : Int) + 1) = ((k + 1 : Nat) : Int))
        go_wp2_with fail
        rw [e1.out]
        refine (implClq_any A n c (k + 1) Q _ (hX.up hw2) h hs).mono ?_
        rintro e w3 ⟨rfl, hb3⟩
        have hw3 := Up.then_ hw2 hb3
        replace hblk := hblk.up hb3
        replace hyb := hblk.two
        replace hown := hown.up hb3
        obtain ⟨S, hS⟩ : ∃ S : Nat, S = k + 1 := ⟨_, rfl⟩
        rw [← hS] at hs hs7
        rw [← hS]
        have HS := Lib.hid hS
        clear hS
        go_wp2_with fail
        go_loopw [5, 25] (fun q i wr => ∃ v : Nat, v ≤ n ∧ i = .int .i64 v ∧ q = .bool (clq Q S && standsK Q S v) ∧ Below w3.heap.size w3 wr) (fun _ i _ => n - (intOf i).toNat)
        case atStart => exact ⟨0, Nat.zero_le _, rfl, by rw [standsK, Bool.and_true], Below.refl _ _⟩
        case round =>
          obtain ⟨v, hv, rfl, rfl, hb4⟩ := hrel
          have hw4 := Up.then_ hw3 hb4
          have hblk4 := hblk.up hb4
          have hown4 := hown.up hb4
          by_cases hvt : v < n
          · obtain ⟨a, rfl, hca⟩ := (hX.up hw4).nb_at hvt
            rcases Bool.eq_false_or_eq_true (clq Q S && standsK Q S v) with e2 | e2
            · obtain ⟨e3, e4⟩ := (Bool.and_eq_true _ _).mp e2 |> fun hh => hh
              have H3 := Lib.hid e3
              have H4 := Lib.hid e4
              rw [e2]
              clear e2 e3 e4
              rcases Bool.eq_false_or_eq_true (S.testBit v) with e5 | e5
              · have H5 := Lib.hid e5
                have HK := Lib.hid (standsK_yes H4.out (stands_in e5))
                clear e5
                go_wp2_with (go_at_call 131; refine (has_eq (by omega) (by omega) H5.out).mono ?_; rintro e w' ⟨rfl, rfl⟩)
                go_roundw
                case rel => exact ⟨v + 1, by omega, by go_num, by rw [H3.out, HK.out]; rfl, hb4⟩
                case measure => simp [intOf]; omega
              · have H5 := Lib.hid e5
                have hand := i64_dif7 hs7 (h.nb7 v)
                have hst := stands_out (Q := Q) e5
                rcases Bool.eq_false_or_eq_true (dif S (nb Q v) != 0) with e6 | e6
                · have HK := Lib.hid (standsK_yes H4.out (hst.trans e6))
                  have hne : (((dif S (nb Q v) : Nat) : Int) != 0) = true := by
                    rw [bne_iff_ne] at e6 ⊢
                    omega
                  clear e5 e6 hst
                  go_wp2_with (go_at_call 131; refine (has_eq (by omega) (by omega) H5.out).mono ?_; rintro e w' ⟨rfl, rfl⟩)
                  go_roundw
                  case rel => exact ⟨v + 1, by omega, by go_num, by rw [H3.out, HK.out]; rfl, hb4⟩
                  case measure => simp [intOf]; omega
                · have HK := Lib.hid (standsK_no (hst.trans e6))
                  have hne : dif S (nb Q v) = 0 := by simpa using e6
                  rw [hne] at hand
                  clear e5 e6 hst hne
                  go_wp2_with (go_at_call 131; refine (has_eq (by omega) (by omega) H5.out).mono ?_; rintro e w' ⟨rfl, rfl⟩)
                  go_roundw
                  case rel => exact ⟨v + 1, by omega, by go_num, by rw [HK.out, Bool.and_false], hb4⟩
                  case measure => simp [intOf]; omega
            · have HK := Lib.hid (show (clq Q S && standsK Q S (v + 1)) = false by
                rcases Bool.eq_false_or_eq_true (clq Q S) with e3 | e3
                · rw [e3] at e2; rw [standsK_off (by simpa using e2), Bool.and_false]
                · rw [e3]; rfl)
              rw [e2]
              clear e2
              go_wp2
              go_roundw
              case rel => exact ⟨v + 1, by omega, by go_num, by rw [HK.out], hb4⟩
              case measure => simp [intOf]; omega
          · obtain rfl : v = n := by omega
            have hsz := hw4.size
            have hcell := (Blk.new wr 3 #[.int .i64 (S : Int)]).one
            rcases Bool.eq_false_or_eq_true (clq Q S && standsK Q S v) with e2 | e2
            · have HM := Lib.hid (maxK_yes (show maxi Q v (k + 1) = true by rw [← HS.out]; exact e2))
              rw [e2]
              clear e2
              go_wp2_with (at_builtin; refine wpList_push rfl (.tmp 44) (.tmp 46) rfl (S : Int) rfl (hown4.alloc _) ⟨wr.heap.size, 0, none⟩ rfl hcell (by omega) (by simp; omega) ?_; intro A' c' w5 hown5 hb5 hg5)
              go_roundw
              case rel => exact ⟨k + 1, A', c', by omega, by rw [← HS.out], by rw [HM.out, ← push_len], hown5.cast (by rw [HM.out, ← push_len]) (by rw [HM.out, ← HS.out, ints_snoc]), (hown4.alloc _).keeps hg5 (hblk4.alloc _) (by decide), (hw4.alloc hsz _).trans hb5⟩
              case measure => have := HS.out; simp [intOf]; omega
            · have HM := Lib.hid (maxK_no (show maxi Q v (k + 1) = false by rw [← HS.out]; exact e2))
              rw [e2]
              clear e2
              go_wp2
              go_roundw
              case rel => exact ⟨k + 1, B, d, by omega, by rw [← HS.out], by rw [HM.out], hown4.cast (by rw [HM.out]) (by rw [HM.out]), hblk4, hw4⟩
              case measure => have := HS.out; simp [intOf]; omega
      · obtain rfl : k = p2 n - 1 := by omega
        go_wp2
        go_ret
        exact givesI_of (l := maxCliques Q n) hown hw2
end Go.Proofs.YthncdjcmlpiebaaGreatDoor
namespace Go.Proofs.YthncdjcmlpiebaaGreatDoor
open Go.RowKit
set_option maxRecDepth 100000 in
set_option maxHeartbeats 2000000 in
theorem specMaximalCliques_any (N : Int) (A : Option Addr) (n c : Nat) (X : List Int) (w : World) (hX : RI w A n X) (hn : n ≤ 9223372036854775807) :
    Calls Tryz.prog 82 #[.agg #[.int .i64 N, .slice A n c]] w (GivesI (ints (maxCliquesOf N X)) w) := by
  rcases isGraph_cases N X with hg | ⟨k, Q, rfl, rfl, h⟩
  · have Hg := Lib.hid hg
    rw [maxCliquesOf_no hg]
    clear hg
    have hown0 : OwnI ((w.alloc (.cells #[.int .i64 N, .slice A n c] 29)).alloc (.cells #[] 3)) w.heap.size (some ⟨w.heap.size + 1, 0, none⟩) 0 0 [] := by
      have hh := OwnI.made (base := w.heap.size) (w.alloc (.cells #[.int .i64 N, .slice A n c] 29)) (by simp)
      have e : (w.alloc (.cells #[.int .i64 N, .slice A n c] 29)).heap.size = w.heap.size + 1 := by simp
      rw [e] at hh
      exact hh
    go_enter Tryz.func82, Tryz.ntmps82
    go_wp2_with fail
    refine wp_loop_rounds 1 ?_
    rw [rounds_succ]
    go_wp2_with fail
    refine (specIsGraph_is (hX.up (by go_grown)) hn Hg.out).mono ?_
    rintro e w1 ⟨rfl, hb1⟩
    have hw1 : Below w.heap.size w w1 := Up.then_ (by go_grown) hb1
    replace hown0 := hown0.up hb1
    go_wp2
    go_ret
    exact givesI_of (l := []) (hown0.cast rfl rfl) hw1
  · obtain rfl : n = k := by rw [← hX.1, ints_len, h.len]
    rw [maxCliquesOf_ok h]
    have hn7 := h.le
    have hp1 := p2_le hn7
    have hp2 := p2_pos n
    have hp := shl_p2 (k := n) (by omega)
    have hown0 : OwnI ((w.alloc (.cells #[.int .i64 n, .slice A n c] 29)).alloc (.cells #[] 3)) w.heap.size (some ⟨w.heap.size + 1, 0, none⟩) 0 0 [] := by
      have hh := OwnI.made (base := w.heap.size) (w.alloc (.cells #[.int .i64 n, .slice A n c] 29)) (by simp)
      have e : (w.alloc (.cells #[.int .i64 n, .slice A n c] 29)).heap.size = w.heap.size + 1 := by simp
      rw [e] at hh
      exact hh
    go_enter Tryz.func82, Tryz.ntmps82
    go_wp2_with fail
    go_loopw [3, 4] (fun v i wr => ∃ (k : Nat) (B : Option Addr) (d : Nat), k + 1 ≤ p2 n ∧ i = .int .i64 ((k : Int) + 1) ∧ v = .slice B (maxK Q n k).length d ∧ OwnI wr w.heap.size B (maxK Q n k).length d (ints (maxK Q n k)) ∧ Blk wr w.heap.size 29 #[.int .i64 n, .slice A n c] ∧ Below w.heap.size w wr) (fun _ i _ => p2 n - (intOf i).toNat)
    case atStart => exact ⟨0, _, _, by omega, rfl, rfl, hown0.cast rfl rfl, (Blk.new w 29 #[.int .i64 n, .slice A n c]).alloc _, by go_grown⟩
    case round =>
      obtain ⟨k, B, d, hk, rfl, rfl, hown, hblk, hwr⟩ := hrel
      obtain ⟨wo, rfl⟩ : ∃ wo : World, wo = wr := ⟨_, rfl⟩
      have hml := maxK_len Q n k
      have hyb := hblk.two
      go_wp2_with fail
      refine (specIsGraph_is (hX.up hwr) hn h.is).mono ?_
      rintro e w2 ⟨rfl, hb2⟩
      have hw2 := Up.then_ hwr hb2
      replace hblk := hblk.up hb2
      replace hyb := hblk.two
      replace hown := hown.up hb2
      by_cases hlt : k + 1 < p2 n
      · have hs : k + 1 < 2 ^ n := hlt
        have hs7 := h.n7 hs
        have e1 : Hid (((k : Int) + 1) = ((k + 1 : Nat) : Int)) := (by omega : ((k : Int) + 1) = ((k + 1 : Nat) : Int))
        go_wp2_with fail
        rw [e1.out]
        refine (specIsClique_ok (s := k + 1) (hX.up hw2) h hs).mono ?_
        rintro e w3 ⟨rfl, hb3⟩
        have hw3 := Up.then_ hw2 hb3
        replace hblk := hblk.up hb3
        replace hyb := hblk.two
        replace hown := hown.up hb3
        obtain ⟨S, hS⟩ : ∃ S : Nat, S = k + 1 := ⟨_, rfl⟩
        rw [← hS] at hs hs7
        rw [← hS]
        have HS := Lib.hid hS
        have hSp : S < p2 n := by omega
        have hdec : decide (S < p2 n) = true := decide_eq_true hSp
        clear hS
        rcases Bool.eq_false_or_eq_true (clq Q S) with e3 | e3
        · have H3 := Lib.hid e3
          rw [e3]
          clear e3
          go_wp2_with fail
          go_loopw [5, 6] (fun q i wr => ∃ v : Nat, v ≤ n ∧ i = .int .i64 v ∧ q = .bool (standsK Q S v) ∧ Below w3.heap.size w3 wr) (fun _ i _ => n - (intOf i).toNat)
          case atStart => exact ⟨0, Nat.zero_le _, rfl, rfl, Below.refl _ _⟩
          case round =>
            obtain ⟨v, hv, rfl, rfl, hb4⟩ := hrel
            have hw4 := Up.then_ hw3 hb4
            have hblk4 := hblk.up hb4
            have hyb4 := hblk4.two
            have hown4 := hown.up hb4
            by_cases hvt : v < n
            · obtain ⟨a, rfl, hca⟩ := (hX.up hw4).nb_at hvt
              have hbit := bit_one S v (by omega)
              rcases Bool.eq_false_or_eq_true (standsK Q S v) with e2 | e2
              · have H2 := Lib.hid e2
                rw [e2]
                rcases Bool.eq_false_or_eq_true (S.testBit v) with e5 | e5
                · have HK := Lib.hid (standsK_yes e2 (stands_in e5))
                  rw [e5] at hbit
                  clear e2 e5
                  go_wp2
                  go_roundw
                  case rel => exact ⟨v + 1, by omega, by go_num, by rw [HK.out], hb4⟩
                  case measure => simp [intOf]; omega
                · have hand := i64_and7 (h.nb7 v) hs7
                  have hst := (stands_out (Q := Q) e5).trans dif_zero
                  rw [e5] at hbit
                  rcases Bool.eq_false_or_eq_true (nb Q v &&& S != S) with e6 | e6
                  · have HK := Lib.hid (standsK_yes e2 (hst.trans e6))
                    have hne : (((nb Q v &&& S : Nat) : Int) != (S : Int)) = true := by
                      rw [bne_iff_ne] at e6 ⊢
                      omega
                    clear e2 e5 e6 hst
                    go_wp2
                    go_roundw
                    case rel => exact ⟨v + 1, by omega, by go_num, by rw [HK.out], hb4⟩
                    case measure => simp [intOf]; omega
                  · have HK := Lib.hid (standsK_no (hst.trans e6))
                    have hne : nb Q v &&& S = S := by simpa using e6
                    rw [hne] at hand
                    clear e2 e5 e6 hst hne
                    go_wp2
                    go_roundw
                    case rel => exact ⟨v + 1, by omega, by go_num, by rw [HK.out], hb4⟩
                    case measure => simp [intOf]; omega
              · have HK := Lib.hid (standsK_off e2)
                rw [e2]
                clear e2
                go_wp2
                go_roundw
                case rel => exact ⟨v + 1, by omega, by go_num, by rw [HK.out], hb4⟩
                case measure => simp [intOf]; omega
            · obtain rfl : v = n := by omega
              have hsz := hw4.size
              have hcell := (Blk.new wr 3 #[.int .i64 (S : Int)]).one
              rcases Bool.eq_false_or_eq_true (standsK Q S v) with e2 | e2
              · have HM := Lib.hid (maxK_yes (show maxi Q v (k + 1) = true by rw [← HS.out, maxi_yes H3.out]; exact e2))
                rw [e2]
                clear e2
                go_wp2_with (at_builtin; refine wpList_push rfl (.tmp 49) (.tmp 51) rfl (S : Int) rfl (hown4.alloc _) ⟨wr.heap.size, 0, none⟩ rfl hcell (by omega) (by simp; omega) ?_; intro A' c' w5 hown5 hb5 hg5)
                go_roundw
                case rel => exact ⟨k + 1, A', c', by omega, by rw [← HS.out]; try go_num, by rw [HM.out, ← push_len], hown5.cast (by rw [HM.out, ← push_len]) (by rw [HM.out, ← HS.out, ints_snoc]), (hown4.alloc _).keeps hg5 (hblk4.alloc _) (by decide), (hw4.alloc hsz _).trans hb5⟩
                case measure => have := HS.out; simp [intOf]; omega
              · have HM := Lib.hid (maxK_no (show maxi Q v (k + 1) = false by rw [← HS.out, maxi_yes H3.out]; exact e2))
                rw [e2]
                clear e2
                go_wp2
                go_roundw
                case rel => exact ⟨k + 1, B, d, by omega, by rw [← HS.out]; try go_num, by rw [HM.out], hown4.cast (by rw [HM.out]) (by rw [HM.out]), hblk4, hw4⟩
                case measure => have := HS.out; simp [intOf]; omega
        · have HM := Lib.hid (maxK_no (show maxi Q n (k + 1) = false by rw [← HS.out]; exact maxi_no e3))
          rw [e3]
          clear e3
          go_wp2
          go_roundw
          case rel => exact ⟨k + 1, B, d, by omega, by rw [← HS.out]; try go_num, by rw [HM.out], hown.cast (by rw [HM.out]) (by rw [HM.out]), hblk, hw3⟩
          case measure => have := HS.out; simp [intOf]; omega
      · obtain rfl : k = p2 n - 1 := by omega
        have hend : ((p2 n - 1 : Nat) : Int) + 1 = (p2 n : Int) := by omega
        rw [hend]
        go_wp2
        go_ret
        exact givesI_of (l := maxCliques Q n) hown hw2
end Go.Proofs.YthncdjcmlpiebaaGreatDoor
namespace Go.Proofs.YthncdjcmlpiebaaGreatDoor
open Go.RowKit
set_option maxRecDepth 100000 in
theorem RI.take {w : World} {A : Option Addr} {n k : Nat} {xs : List Int} (h : RI w A n xs) (hk : k ≤ n) : RI w A k (xs.take k) := by
  refine ⟨by rw [List.length_take, h.1]; omega, fun h0 => ?_⟩
  obtain ⟨ad, e, hc⟩ := h.2 (by omega)
  refine ⟨ad, e, fun j hj => ?_⟩
  rw [hc j (by omega)]
  simp [List.getD, hj]
def idxZ (xs : List Int) (v : Int) : Int := if v ∈ xs then (xs.idxOf v : Int) else -1
set_option maxRecDepth 100000 in
theorem idxZ_at {xs : List Int} {v : Int} {k : Nat} (hk : k < xs.length) (h : xs.getD k 0 = v) (hno : ∀ j, j < k → xs.getD j 0 ≠ v) : idxZ xs v = k := by
  have h1 : xs[k] = v := by simpa [List.getD, List.getElem?_eq_getElem hk] using h
  have hm : v ∈ xs := h1 ▸ List.getElem_mem hk
  rw [idxZ, if_pos hm]
  have hi := List.idxOf_lt_length_of_mem hm
  have hg : xs[xs.idxOf v] = v := List.getElem_idxOf hi
  rcases Nat.lt_trichotomy (xs.idxOf v) k with hlt | he | hlt
  · exact absurd (by simp [List.getD, List.getElem?_eq_getElem hi, hg]) (hno _ hlt)
  · rw [he]
  · have := List.not_of_lt_findIdx (p := fun x => x == v) (xs := xs) (i := k) hlt
    simp [h1] at this
set_option maxRecDepth 100000 in
theorem idxZ_none {xs : List Int} {v : Int} (h : ∀ j, j < xs.length → xs.getD j 0 ≠ v) : idxZ xs v = -1 := by
  rw [idxZ, if_neg]
  intro hm
  obtain ⟨j, hj, e⟩ := List.mem_iff_getElem.1 hm
  exact h j hj (by simp [List.getD, List.getElem?_eq_getElem hj, e])
set_option maxRecDepth 100000 in
theorem idxZ_nonneg (xs : List Int) (v : Int) : decide (0 ≤ idxZ xs v) = decide (v ∈ xs) := by
  rw [idxZ, decide_eq_decide]
  split
  · rename_i h; exact ⟨fun _ => h, fun _ => by omega⟩
  · rename_i h; exact ⟨fun h' => by omega, fun h' => absurd h' h⟩
set_option maxRecDepth 100000 in
set_option maxHeartbeats 1000000 in
theorem slIndex_any (A : Option Addr) (n c : Nat) (v : Int) (xs : List Int) (w : World) (hA : RI w A n xs) (hn : n ≤ 9223372036854775807) :
    Calls Tryz.prog 132 #[.slice A n c, .int .i64 v] w fun e w' => e = .returned (.int .i64 (idxZ xs v)) ∧ w = w' := by
  have HX := Lib.hid hA.1
  go_enter Tryz.func132, Tryz.ntmps132
  go_wp2
  go_loop [8] (fun i => ∃ k : Nat, k ≤ n ∧ i = .int .i64 k ∧ Hid (∀ j, j < k → xs.getD j 0 ≠ v)) (fun i => n - (intOf i).toNat)
  case atStart => exact ⟨0, Nat.zero_le _, rfl, fun j h => absurd h (by omega)⟩
  case round =>
    obtain ⟨k, hk, rfl, hno⟩ := hrel
    by_cases hlt : k < n
    · obtain ⟨a, rfl, _, hca⟩ := hA.at_ hlt
      by_cases e : xs.getD k 0 = v
      · have HR := Lib.hid (idxZ_at (by rw [HX.out]; exact hlt) e hno.out)
        have hd : (v == xs[k]?.getD 0) = true := by rw [beq_iff_eq]; exact e.symm
        clear e
        go_wp2
        go_ret
        exact ⟨ret_int HR.out.symm, rfl⟩
      · have hd : (v == xs[k]?.getD 0) = false := by rw [beq_eq_false_iff_ne]; exact fun h => e h.symm
        have He := Lib.hid e
        clear e
        go_wp2
        go_round
        case rel => exact ⟨k + 1, by omega, by go_num, fun j hj => by
          rcases Nat.lt_succ_iff_lt_or_eq.1 hj with h' | rfl
          · exact hno.out j h'
          · exact He.out⟩
        case measure => simp [intOf]; omega
    · obtain rfl : k = n := by omega
      have HR := Lib.hid (idxZ_none (xs := xs) (v := v) (by rw [HX.out]; exact hno.out))
      go_wp2
      go_ret
      exact ⟨ret_int HR.out.symm, rfl⟩
set_option maxRecDepth 100000 in
theorem slContains_any (A : Option Addr) (n c : Nat) (v : Int) (xs : List Int) (w : World) (hA : RI w A n xs) (hn : n ≤ 9223372036854775807) :
    Calls Tryz.prog 81 #[.slice A n c, .int .i64 v] w fun e w' => e = .returned (.bool (decide (v ∈ xs))) ∧ w = w' := by
  have HZ := Lib.hid (idxZ_nonneg xs v)
  go_enter Tryz.func81, Tryz.ntmps81
  go_wp2_with fail
  refine (slIndex_any A n c v xs _ hA hn).mono ?_
  rintro e w' ⟨rfl, rfl⟩
  go_wp2
  go_ret
  exact ⟨ret_bool HZ.out, rfl⟩
set_option maxRecDepth 100000 in
theorem slContains_is {A : Option Addr} {n c : Nat} {v : Int} {xs : List Int} {w : World} {b : Bool} (hA : RI w A n xs) (hn : n ≤ 9223372036854775807) (h : decide (v ∈ xs) = b) :
    Calls Tryz.prog 81 #[.slice A n c, .int .i64 v] w fun e w' => e = .returned (.bool b) ∧ w = w' := by
  subst h; exact slContains_any A n c v xs w hA hn
def setOfRes (l : List Int) : Int := if vertsP 7 l then (setZ l : Int) else 0
set_option maxRecDepth 100000 in
set_option maxHeartbeats 2000000 in
theorem setOf_any (B : Option Addr) (m d : Nat) (l : List Int) (w : World) (hL : RI w B m l) (hm : m ≤ 9223372036854775807) :
    Calls Tryz.prog 185 #[.slice B m d] w fun e w' => e = .returned (.tuple #[.int .i64 (setOfRes l), .bool (decide (vertsP 7 l))]) ∧ w = w' := by
  have HL := Lib.hid hL.1
  go_enter Tryz.func185, Tryz.ntmps185
  go_wp2_with fail
  go_loop [4, 5] (fun s i => ∃ k : Nat, k ≤ m ∧ i = .int .i64 k ∧ s = .int .i64 (setZ (l.take k)) ∧ Hid (vertsP 7 (l.take k))) (fun _ i => m - (intOf i).toNat)
  case atStart => exact ⟨0, Nat.zero_le _, rfl, rfl, vertsP_nil 7⟩
  case round =>
    obtain ⟨k, hk, rfl, rfl, hv⟩ := hrel
    have hs7 := setZ_lt (n := 7) hv.out.1
    by_cases hlt : k < m
    · obtain ⟨b, rfl, _, hcb⟩ := hL.at_ hlt
      have HS := Lib.hid (take_snocI (l := l) (k := k) (by rw [HL.out]; exact hlt))
      have HO := Lib.hid (vertsP_out (n := 7) (l := l) (k := k) (by rw [HL.out]; exact hlt))
      by_cases hin : 0 ≤ l.getD k 0 ∧ l.getD k 0 ≤ 6
      · obtain ⟨x, hx⟩ : ∃ x : Nat, l.getD k 0 = x := ⟨(l.getD k 0).toNat, by omega⟩
        rw [hx] at hcb hin HS HO
        have hx6 : x ≤ 6 := by omega
        have hbit := bit_one (setZ (l.take k)) x (by omega)
        rw [setZ_bit hv.out.1] at hbit
        clear hx
        by_cases e1 : (x : Int) ∈ l.take k
        · have Hno := Lib.hid (HO.out fun h => h.2 e1)
          rw [decide_eq_true e1] at hbit
          clear e1
          go_wp2_with (go_at_call 95; refine (l1In_eq hin).mono ?_; rintro e w' ⟨rfl, rfl⟩)
          go_ret2
          refine ⟨?_, rfl⟩
          rw [setOfRes, if_neg Hno.out, decide_eq_false Hno.out]; rfl
        · have Hok := Lib.hid (show vertsP 7 (l.take (k + 1)) by rw [HS.out, vertsP_snoc]; exact ⟨hv.out, by omega, e1⟩)
          have Hsum := Lib.hid (show ((setZ (l.take k) : Nat) : Int) + ((p2 x : Nat) : Int) = ((setZ (l.take (k + 1)) : Nat) : Int) by
            rw [HS.out, setZ_snoc]
            have h1 := add_bit (a := setZ (l.take k)) (x := x) (by rw [setZ_bit hv.out.1]; exact decide_eq_false e1)
            have h2 : ((x : Int)).toNat = x := by omega
            rw [h2, ← h1]
            rfl)
          have hsh := shl_p2 (k := x) (by omega)
          have hp := p2_le (k := x) (by omega)
          rw [decide_eq_false e1] at hbit
          clear e1
          go_wp2_with (go_at_call 95; refine (l1In_eq hin).mono ?_; rintro e w' ⟨rfl, rfl⟩)
          go_round
          case rel => exact ⟨k + 1, by omega, by go_num, by rw [Hsum.out], Hok.out⟩
          case measure => simp [intOf]; omega
      · have Hno := Lib.hid (HO.out fun h => hin (by omega))
        obtain ⟨z, hz⟩ : ∃ z, z = l.getD k 0 := ⟨_, rfl⟩
        rw [← hz] at hcb hin
        clear hz
        go_wp2_with (go_at_call 95; refine (l1In_no _ _ _ _ hin).mono ?_; rintro e w' ⟨rfl, rfl⟩)
        go_ret2
        refine ⟨?_, rfl⟩
        rw [setOfRes, if_neg Hno.out, decide_eq_false Hno.out]; rfl
    · obtain rfl : k = m := by omega
      have Hl := Lib.hid (List.take_of_length_le (Nat.le_of_eq HL.out))
      go_wp2
      go_ret2
      refine ⟨?_, rfl⟩
      have := hv.out
      rw [Hl.out] at this
      rw [setOfRes, if_pos this, decide_eq_true this, Hl.out]; rfl
set_option maxRecDepth 100000 in
set_option maxHeartbeats 1000000 in
theorem l4Distinct_any (N : Int) (A B : Option Addr) (n c m d : Nat) (X l : List Int) (w : World) (hX : RI w A n X) (hL : RI w B m l) (hn : n ≤ 9223372036854775807) (hm : m ≤ 9223372036854775807) :
    Calls Tryz.prog 174 #[.agg #[.int .i64 N, .slice A n c], .slice B m d] w fun e w' => e = .returned (.bool (isVerts N X l)) ∧ Below w.heap.size w w' := by
  have HL := Lib.hid hL.1
  have hb0 := Blk.new w 29 #[.int .i64 N, .slice A n c]
  have hy0 := hb0.two
  rcases isGraph_cases N X with hg | ⟨k, Q, rfl, rfl, h⟩
  · have Hg := Lib.hid hg
    have HR := Lib.hid (isVerts_no (l := l) hg)
    clear hg
    go_enter Tryz.func174, Tryz.ntmps174
    go_wp2_with fail
    refine (setOf_any B m d l _ (hL.up (by go_grown)) hm).mono ?_
    rintro e w1 ⟨rfl, rfl⟩
    go_wp2_with fail
    refine (specIsGraph_is (hX.up (by go_grown)) hn Hg.out).mono ?_
    rintro e w2 ⟨rfl, hb2⟩
    have hU2 : Up w w2 := Up.then_ (by go_grown) hb2
    go_wp2
    go_ret
    exact ⟨ret_bool HR.out.symm, hU2⟩
  · obtain rfl : n = k := by rw [← hX.1, ints_len, h.len]
    have HR := Lib.hid (isVerts_ok (l := l) h)
    by_cases h7 : vertsP 7 l
    · have HS := Lib.hid (isSet_setZ h h7)
      have H1 := Lib.hid (show setOfRes l = (setZ l : Int) by rw [setOfRes, if_pos h7])
      have H2 := Lib.hid (decide_eq_true h7)
      clear h7
      go_enter Tryz.func174, Tryz.ntmps174
      go_wp2_with fail
      refine (setOf_any B m d l _ (hL.up (by go_grown)) hm).mono ?_
      rintro e w1 ⟨rfl, rfl⟩
      rw [H1.out, H2.out]
      go_wp2_with fail
      refine (specIsGraph_is (hX.up (by go_grown)) hn h.is).mono ?_
      rintro e w2 ⟨rfl, hb2⟩
      have hU2 : Up w w2 := Up.then_ (by go_grown) hb2
      replace hX := hX.up hU2
      replace hb0 := hb0.up hb2
      clear hy0
      have hy0 := hb0.two
      have hl0 := hb0.lt
      go_wp2_with fail
      refine (specIsSet_any n A n c (ints Q) (setZ l) _ hX hn).mono ?_
      rintro e w3 ⟨rfl, hb3⟩
      have hU3 : Up w2 w3 := Up.then_ (by go_grown) hb3
      replace hX := hX.up hU3
      have hw3 := Up.then_ hU2 hU3
      go_wp2
      go_ret
      exact ⟨ret_bool (HS.out.trans HR.out.symm), hw3⟩
    · have Hno := Lib.hid (show ¬ vertsP n l from fun e => h7 (e.mono h.le))
      have H1 := Lib.hid (show setOfRes l = 0 by rw [setOfRes, if_neg h7])
      have H2 := Lib.hid (decide_eq_false h7)
      clear h7
      go_enter Tryz.func174, Tryz.ntmps174
      go_wp2_with fail
      refine (setOf_any B m d l _ (hL.up (by go_grown)) hm).mono ?_
      rintro e w1 ⟨rfl, rfl⟩
      rw [H1.out, H2.out]
      go_wp2_with fail
      refine (specIsGraph_is (hX.up (by go_grown)) hn h.is).mono ?_
      rintro e w2 ⟨rfl, hb2⟩
      have hU2 : Up w w2 := Up.then_ (by go_grown) hb2
      go_wp2
      go_ret
      exact ⟨ret_bool (HR.out.trans (decide_eq_false Hno.out)).symm, hU2⟩
set_option maxRecDepth 100000 in
theorem l4Distinct_is {N : Int} {A B : Option Addr} {n c m d : Nat} {X l : List Int} {w : World} {b : Bool} (hX : RI w A n X) (hL : RI w B m l) (hn : n ≤ 9223372036854775807) (hm : m ≤ 9223372036854775807) (h : isVerts N X l = b) :
    Calls Tryz.prog 174 #[.agg #[.int .i64 N, .slice A n c], .slice B m d] w fun e w' => e = .returned (.bool b) ∧ Below w.heap.size w w' := by
  subst h; exact l4Distinct_any N A B n c m d X l w hX hL hn hm
set_option maxRecDepth 100000 in
theorem specIsOrder_any (N : Int) (A B : Option Addr) (n c m d : Nat) (X l : List Int) (w : World) (hX : RI w A n X) (hL : RI w B m l) (hn : n ≤ 9223372036854775807) (hm : m ≤ 9223372036854775807) :
    Calls Tryz.prog 158 #[.agg #[.int .i64 N, .slice A n c], .slice B m d] w fun e w' => e = .returned (.bool (isOrder N X l)) ∧ Below w.heap.size w w' := by
  have HL := Lib.hid hL.1
  rcases Bool.eq_false_or_eq_true (isVerts N X l) with e1 | e1
  · have HR := Lib.hid ((isOrder_yes e1).trans (show decide ((l.length : Int) = N) = ((m : Int) == N) by rw [HL.out]; rfl))
    have H1 := Lib.hid e1
    clear e1
    go_enter Tryz.func158, Tryz.ntmps158
    go_wp2_with fail
    refine (l4Distinct_is (hX.up (by go_grown)) (hL.up (by go_grown)) hn hm H1.out).mono ?_
    rintro e w1 ⟨rfl, hb1⟩
    have hU1 : Up w w1 := Up.then_ (by go_grown) hb1
    have hblk := (Blk.new w 29 #[.int .i64 N, .slice A n c]).up hb1
    have hyb := hblk.two
    go_wp2
    go_ret
    exact ⟨ret_bool HR.out.symm, hU1⟩
  · have HR := Lib.hid (isOrder_no e1)
    have H1 := Lib.hid e1
    clear e1
    go_enter Tryz.func158, Tryz.ntmps158
    go_wp2_with fail
    refine (l4Distinct_is (hX.up (by go_grown)) (hL.up (by go_grown)) hn hm H1.out).mono ?_
    rintro e w1 ⟨rfl, hb1⟩
    have hU1 : Up w w1 := Up.then_ (by go_grown) hb1
    go_wp2
    go_ret
    exact ⟨ret_bool HR.out.symm, hU1⟩
set_option maxRecDepth 100000 in
theorem specIsOrder_is {N : Int} {A B : Option Addr} {n c m d : Nat} {X l : List Int} {w : World} {b : Bool} (hX : RI w A n X) (hL : RI w B m l) (hn : n ≤ 9223372036854775807) (hm : m ≤ 9223372036854775807) (h : isOrder N X l = b) :
    Calls Tryz.prog 158 #[.agg #[.int .i64 N, .slice A n c], .slice B m d] w fun e w' => e = .returned (.bool b) ∧ Below w.heap.size w w' := by
  subst h; exact specIsOrder_any N A B n c m d X l w hX hL hn hm
end Go.Proofs.YthncdjcmlpiebaaGreatDoor
namespace Go.Proofs.YthncdjcmlpiebaaGreatDoor
open Go.RowKit
set_option maxRecDepth 100000 in
theorem add_0_ (g k : Nat) : (⟨g, 0, none⟩ : Addr).add k = ⟨g, k, none⟩ := by unfold Addr.add; split <;> simp_all
/-- A call of function f comes to its body. -/
def EntersF (f : FuncId) : Prop := ∀ (args : Array Value) (w : World), (callFunc f args).run Tryz.prog w = .ok (.enter f args) w
set_option maxRecDepth 100000 in
theorem entersF {f : FuncId} {fn : Func} {c : Code} (hf : Tryz.prog.funcs[f]? = some fn) (hname : (fn.name == "runtime.NumGoroutine") = false) (hb : fn.body = some c) : EntersF f := by
  intro args w
  have h1 : fn.name ≠ "runtime.NumGoroutine" := by simpa using hname
  simp [callFunc, hf, h1, hb, mark]
def idxF (p : Int → Bool) (xs : List Int) : Int := if xs.any p then (xs.findIdx p : Int) else -1
set_option maxRecDepth 100000 in
theorem idxF_at {p : Int → Bool} {xs : List Int} {k : Nat} (hk : k < xs.length) (h : p (xs.getD k 0) = true) (hno : ∀ j, j < k → p (xs.getD j 0) = false) : idxF p xs = k := by
  have h1 : p xs[k] = true := by simpa [List.getD, List.getElem?_eq_getElem hk] using h
  rw [idxF, if_pos (List.any_eq_true.2 ⟨_, List.getElem_mem hk, h1⟩)]
  have hi : xs.findIdx p < xs.length := List.findIdx_lt_length_of_exists ⟨_, List.getElem_mem hk, h1⟩
  have hg : p xs[xs.findIdx p] = true := List.findIdx_getElem (w := hi)
  rcases Nat.lt_trichotomy (xs.findIdx p) k with hlt | he | hlt
  · have := hno _ hlt
    simp [List.getD, List.getElem?_eq_getElem hi, hg] at this
  · rw [he]
  · have := List.not_of_lt_findIdx hlt
    rw [h1] at this
    cases this
set_option maxRecDepth 100000 in
theorem idxF_none {p : Int → Bool} {xs : List Int} (h : ∀ j, j < xs.length → p (xs.getD j 0) = false) : idxF p xs = -1 := by
  rw [idxF, if_neg]
  intro hm
  obtain ⟨x, hx, e⟩ := List.any_eq_true.1 hm
  obtain ⟨j, hj, rfl⟩ := List.mem_iff_getElem.1 hx
  have := h j hj
  simp [List.getD, List.getElem?_eq_getElem hj, e] at this
set_option maxHeartbeats 1000000 in
set_option maxRecDepth 100000 in
theorem slIndexFunc_any (f : FuncId) (caps : Array Value) (p : Int → Bool) (A : Option Addr) (n c : Nat) (xs : List Int) (w : World) (hA : RI w A n xs) (hn : n ≤ 9223372036854775807) (he : EntersF f)
    (hp : ∀ j, j < n → ∀ w', Up w w' → Calls Tryz.prog f (#[.int .i64 (xs.getD j 0)] ++ caps) w' fun e w'' => e = .returned (.bool (p (xs.getD j 0))) ∧ Below w'.heap.size w' w'') :
    Calls Tryz.prog 113 #[.slice A n c, .func (.func f) #[] caps] w fun e w' => e = .returned (.int .i64 (idxF p xs)) ∧ Below w.heap.size w w' := by
  have HX := Lib.hid hA.1
  have HP := Lib.hid hp
  clear hp
  unfold EntersF at he
  go_enter Tryz.func113, Tryz.ntmps113
  go_wp2
  go_loopw [8] (fun i wr => ∃ k : Nat, k ≤ n ∧ i = .int .i64 k ∧ Up w wr ∧ Hid (∀ j, j < k → p (xs.getD j 0) = false)) (fun i _ => n - (intOf i).toNat)
  case atStart => exact ⟨0, Nat.zero_le _, rfl, Up.refl _, fun j h => absurd h (by omega)⟩
  case round =>
    obtain ⟨k, hk, rfl, hb, hno⟩ := hrel
    by_cases hlt : k < n
    · obtain ⟨a, rfl, _, hca⟩ := (hA.up hb).at_ hlt
      obtain ⟨z, hz⟩ : ∃ z, z = xs.getD k 0 := ⟨_, rfl⟩
      rw [← hz] at hca
      have Hz := Lib.hid hz
      clear hz
      go_wp2_with fail
      refine (show Calls Tryz.prog f (#[.int .i64 z] ++ caps) wr fun e w'' => e = .returned (.bool (p z)) ∧ Below wr.heap.size wr w'' by rw [Hz.out]; exact HP.out k hlt wr hb).mono ?_
      rintro e w2 ⟨rfl, hb2⟩
      have hw2 := Up.then_ hb hb2
      rcases Bool.eq_false_or_eq_true (p z) with e1 | e1
      · have HR := Lib.hid (idxF_at (p := p) (xs := xs) (k := k) (by rw [HX.out]; exact hlt) (by rw [← Hz.out]; exact e1) hno.out)
        rw [e1]
        clear e1
        go_wp2
        go_ret
        exact ⟨ret_int HR.out.symm, hw2⟩
      · have E1 := Lib.hid e1
        rw [e1]
        clear e1
        go_wp2
        go_roundw
        case rel => exact ⟨k + 1, by omega, by go_num, hw2, fun j hj => by
          rcases Nat.lt_succ_iff_lt_or_eq.1 hj with h' | rfl
          · exact hno.out j h'
          · rw [← Hz.out]; exact E1.out⟩
        case measure => simp [intOf]; omega
    · obtain rfl : k = n := by omega
      have HR := Lib.hid (idxF_none (p := p) (xs := xs) (by rw [HX.out]; exact hno.out))
      go_wp2
      go_ret
      exact ⟨ret_int HR.out.symm, hb⟩
end Go.Proofs.YthncdjcmlpiebaaGreatDoor
namespace Go.Proofs.YthncdjcmlpiebaaGreatDoor
open Go.RowKit
set_option maxRecDepth 100000 in
theorem RI.nbs {w : World} {ad : Addr} {m k : Nat} {o : List Nat} (h : RI w (some ad) m (ints o)) (hk : k < m) : w.cell? (ad.add k) = some (.int .i64 (nb o k)) := by
  obtain ⟨a, e, hc⟩ := h.nb_at hk
  injection e with e
  subst e
  exact hc
end Go.Proofs.YthncdjcmlpiebaaGreatDoor
namespace Go.Proofs.YthncdjcmlpiebaaGreatDoor
open Go.RowKit
set_option maxRecDepth 100000 in
set_option maxHeartbeats 1000000 in
theorem l8Has_any (A : Option Addr) (n c : Nat) (v : Int) (xs : List Int) (w : World) (hA : RI w A n xs) (hn : n ≤ 9223372036854775807) :
    Calls Tryz.prog 83 #[.slice A n c, .int .i64 v] w fun e w' => e = .returned (.bool (decide (v ∈ xs))) ∧ w = w' := by
  have HX := Lib.hid hA.1
  go_enter Tryz.func83, Tryz.ntmps83
  go_wp2
  go_loop [5] (fun i => ∃ k : Nat, k ≤ n ∧ i = .int .i64 k ∧ Hid (∀ j, j < k → xs.getD j 0 ≠ v)) (fun i => n - (intOf i).toNat)
  case atStart => exact ⟨0, Nat.zero_le _, rfl, fun j h => absurd h (by omega)⟩
  case round =>
    obtain ⟨k, hk, rfl, hno⟩ := hrel
    by_cases hlt : k < n
    · obtain ⟨a, rfl, _, hca⟩ := hA.at_ hlt
      by_cases e : xs.getD k 0 = v
      · have HR := Lib.hid (show v ∈ xs by
          have hk' : k < xs.length := by rw [HX.out]; exact hlt
          have h1 : xs[k] = v := by simpa [List.getD, List.getElem?_eq_getElem hk'] using e
          exact h1 ▸ List.getElem_mem hk')
        have hd : (xs[k]?.getD 0 == v) = true := by rw [beq_iff_eq]; exact e
        clear e
        go_wp2
        go_ret
        exact ⟨ret_bool (decide_eq_true HR.out).symm, rfl⟩
      · have hd : (xs[k]?.getD 0 == v) = false := by rw [beq_eq_false_iff_ne]; exact e
        have He := Lib.hid e
        clear e
        go_wp2
        go_round
        case rel => exact ⟨k + 1, by omega, by go_num, fun j hj => by
          rcases Nat.lt_succ_iff_lt_or_eq.1 hj with h' | rfl
          · exact hno.out j h'
          · exact He.out⟩
        case measure => simp [intOf]; omega
    · obtain rfl : k = n := by omega
      have HR := Lib.hid (show v ∉ xs from fun hm => by
        obtain ⟨j, hj, e⟩ := List.mem_iff_getElem.1 hm
        exact hno.out j (by rw [← HX.out]; exact hj) (by simp [List.getD, List.getElem?_eq_getElem hj, e]))
      go_wp2
      go_ret
      exact ⟨ret_bool (decide_eq_false HR.out).symm, rfl⟩
set_option maxRecDepth 100000 in
theorem l8Has_is {A : Option Addr} {n c : Nat} {v : Int} {xs : List Int} {w : World} {b : Bool} (hA : RI w A n xs) (hn : n ≤ 9223372036854775807) (h : decide (v ∈ xs) = b) :
    Calls Tryz.prog 83 #[.slice A n c, .int .i64 v] w fun e w' => e = .returned (.bool b) ∧ w = w' := by
  subst h; exact l8Has_any A n c v xs w hA hn
set_option maxRecDepth 100000 in
theorem dec_mem (l : List Nat) (v : Nat) : decide ((v : Int) ∈ ints l) = decide (v ∈ l) := decide_eq_decide.2 ints_mem'
end Go.Proofs.YthncdjcmlpiebaaGreatDoor
namespace Go.Proofs.YthncdjcmlpiebaaGreatDoor
open Go.RowKit
set_option maxRecDepth 100000 in
theorem givesIB_some {q : List Nat} {w w' : World} {A : Option Addr} {c base : Nat} (h : OwnI w' base A q.length c (ints q)) (hbase : w.heap.size ≤ base) (hb : Below w.heap.size w w') : GivesIB (ints q) true w (.returned (.tuple #[.slice A q.length c, .bool true])) w' := by
  have e := ints_len q
  exact ⟨A, c, by rw [e], (h.cast e.symm rfl).more hbase, hb⟩
set_option maxRecDepth 100000 in
theorem givesIB_none {w w' : World} {A : Option Addr} {c base : Nat} (h : OwnI w' base A 0 c []) (hbase : w.heap.size ≤ base) (hb : Below w.heap.size w w') : GivesIB [] false w (.returned (.tuple #[.slice A 0 c, .bool false])) w' :=
  ⟨A, c, rfl, h.more hbase, hb⟩
/-- The results of a search as a list and a flag. -/
def optL (r : Option (List Nat)) : List Int := ints (r.getD [])
set_option maxRecDepth 100000 in
theorem GivesIB.up {xs : List Int} {b : Bool} {w0 w : World} {e : Ending} {w' : World} (h : GivesIB xs b w e w') (hb : Up w0 w) : GivesIB xs b w0 e w' := by
  obtain ⟨A, c, h1, h2, h3⟩ := h
  exact ⟨A, c, h1, h2.more hb.size, Up.then_ hb h3⟩
end Go.Proofs.YthncdjcmlpiebaaGreatDoor
