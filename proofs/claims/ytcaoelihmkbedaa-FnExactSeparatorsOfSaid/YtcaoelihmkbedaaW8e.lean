/- Walks of chapter 8: the minimal separators of a graph. -/
import Derived.Test.YtcaoelihmkbedaaW8d
import Derived.Test.YtcaoelihmkbedaaPureF
namespace Go.Proofs.Ytcaoelihmkbedaa
open Go.RowKit
def sepsOf (N : Int) (X : List Int) : List Nat := if isGraph N X then filtK (minSep (X.map Int.toNat) N.toNat) (2 ^ N.toNat) else []
theorem sepsOf_no {N : Int} {X : List Int} (h : isGraph N X = false) : sepsOf N X = [] := by rw [sepsOf, h]; rfl
theorem sepsOf_ok {n : Nat} {Q : List Nat} (h : GOk n Q) : sepsOf n (ints Q) = filtK (minSep Q n) (2 ^ n) := by rw [sepsOf, if_pos h.is, nats_ints, Int.toNat_natCast]
theorem own_new1 (w : World) (t : TypeId) (cs : Array Value) : OwnI ((w.alloc (.cells cs t)).alloc (.cells #[] 3)) w.heap.size (some ⟨w.heap.size + 1, 0, none⟩) 0 0 [] := by
  have hh := OwnI.made (base := w.heap.size) (w.alloc (.cells cs t)) (by simp)
  have e : (w.alloc (.cells cs t)).heap.size = w.heap.size + 1 := by simp
  rw [e] at hh
  exact hh
set_option maxRecDepth 100000 in
set_option maxHeartbeats 1000000 in
theorem implSeparatorsOf_any (N : Int) (A : Option Addr) (n c : Nat) (X : List Int) (w : World) (hX0 : RI w A n X) (hn : n ≤ 9223372036854775807) :
    Calls Try.prog 52 #[.agg #[.int .i64 N, .slice A n c]] w (GivesI (ints (sepsOf N X)) w) := by
  have hown0 := own_new1 w 27 #[.int .i64 N, .slice A n c]
  rcases isGraph_cases N X with hg | ⟨k, Q, rfl, rfl, h⟩
  · have Hg := Lib.hid hg
    rw [sepsOf_no hg]
    clear hg
    go_enter Try.func52, Try.ntmps52
    go_wp2_with fail
    refine (implIsGraph_is (hX0.up (by go_grown)) hn Hg.out).mono ?_
    rintro e w1 ⟨rfl, hb1⟩
    have hU1 : Up w w1 := Up.then_ (by go_grown) hb1
    replace hown0 := hown0.up hb1
    go_wp2
    go_ret
    exact givesI_of (l := []) (hown0.cast rfl rfl) hU1
  · obtain rfl : n = k := by rw [← hX0.1, ints_len, h.len]
    rw [sepsOf_ok h]
    have hn7 := h.le
    have hp1 := p2_le hn7
    have hp2 := p2_pos n
    go_enter Try.func52, Try.ntmps52
    go_wp2_with fail
    refine (implIsGraph_is (hX0.up (by go_grown)) hn h.is).mono ?_
    rintro e w1 ⟨rfl, hb1⟩
    have hU1 : Up w w1 := Up.then_ (by go_grown) hb1
    replace hown0 := hown0.up hb1
    have hblk := ((Blk.new w 27 #[.int .i64 n, .slice A n c]).alloc (.cells #[] 3)).up hb1
    have hw := hU1
    have yhblk := hblk.two
    have lhblk := hblk.lt
    go_wp2_with fail
    refine (all_any n A c n _ hn7).mono ?_
    rintro e w2 ⟨rfl, hb2⟩
    have hU2 : Up w1 w2 := hb2
    have hw2 := Up.then_ hw hU2
    replace hown0 := hown0.up hU2
    replace hblk := hblk.up hU2
    clear yhblk lhblk
    go_wp2_with fail
    go_loopw [3, 13] (fun v i wr => ∃ (k : Nat) (B : Option Addr) (d : Nat), k ≤ p2 n ∧ i = .int .i64 k ∧ v = .slice B (filtK (minSep Q n) k).length d ∧ OwnI wr w.heap.size B (filtK (minSep Q n) k).length d (ints (filtK (minSep Q n) k)) ∧ Blk wr w.heap.size 27 #[.int .i64 n, .slice A n c] ∧ Below w.heap.size w wr) (fun _ i _ => p2 n - (intOf i).toNat)
    case atStart => exact ⟨0, _, _, by omega, rfl, rfl, hown0.cast rfl rfl, hblk, hw2⟩
    case round =>
      obtain ⟨k, B, d, hk, rfl, rfl, hown, hblk, hwr⟩ := hrel
      have hfl := filtK_len (minSep Q n) k
      have yhblk := hblk.two
      by_cases hlt : k < p2 n
      · have hs : k < 2 ^ n := hlt
        go_wp2_with fail
        refine (implIsMinimalSeparator_ok A n c k Q _ (hX0.up hwr) h hs).mono ?_
        rintro e w3 ⟨rfl, hb3⟩
        have hU3 : Up wr w3 := Up.then_ (by go_grown) hb3
        replace hblk := hblk.up hU3
        replace hown := hown.up hU3
        have hw3 := Up.then_ hwr hU3
        have hsz := hw3.size
        have hcell := (Blk.new w3 3 #[.int .i64 (k : Int)]).one
        rcases Bool.eq_false_or_eq_true (minSep Q n k) with e1 | e1
        · have HF := Lib.hid (filtK_yes e1)
          rw [e1]
          clear e1
          go_wp2_with (at_builtin; refine wpList_push rfl (.tmp 19) (.tmp 21) rfl (k : Int) rfl (hown.alloc _) ⟨w3.heap.size, 0, none⟩ rfl hcell (by omega) (by simp; omega) ?_; intro A' c' w5 hown5 hb5 hg5)
          go_roundw
          case rel => exact ⟨k + 1, A', c', by omega, by go_num, by rw [HF.out, ← push_len], hown5.cast (by rw [HF.out, ← push_len]) (by rw [HF.out, ints_snoc]), (hown.alloc _).keeps hg5 (hblk.alloc _) (by decide), (hw3.alloc hsz _).trans hb5⟩
          case measure => simp [intOf]; omega
        · have HF := Lib.hid (filtK_no e1)
          rw [e1]
          clear e1
          go_wp2
          go_roundw
          case rel => exact ⟨k + 1, B, d, by omega, by go_num, by rw [HF.out], hown.cast (by rw [HF.out]) (by rw [HF.out]), hblk, hw3⟩
          case measure => simp [intOf]; omega
      · obtain rfl : k = p2 n := by omega
        go_wp2
        go_ret
        exact givesI_of (l := filtK (minSep Q n) (2 ^ n)) hown hwr
set_option maxRecDepth 100000 in
set_option maxHeartbeats 1000000 in
theorem specSeparatorsOf_any (N : Int) (A : Option Addr) (n c : Nat) (X : List Int) (w : World) (hX0 : RI w A n X) (hn : n ≤ 9223372036854775807) :
    Calls Try.prog 51 #[.agg #[.int .i64 N, .slice A n c]] w (GivesI (ints (sepsOf N X)) w) := by
  have hown0 := own_new1 w 27 #[.int .i64 N, .slice A n c]
  rcases isGraph_cases N X with hg | ⟨k, Q, rfl, rfl, h⟩
  · have Hg := Lib.hid hg
    rw [sepsOf_no hg]
    clear hg
    go_enter Try.func51, Try.ntmps51
    go_wp2_with fail
    go_loopw [3, 4] (fun v i wr => i = .int .i64 0 ∧ v = .slice (some ⟨w.heap.size + 1, 0, none⟩) 0 0 ∧ OwnI wr w.heap.size (some ⟨w.heap.size + 1, 0, none⟩) 0 0 [] ∧ Blk wr w.heap.size 27 #[.int .i64 N, .slice A n c] ∧ Below w.heap.size w wr) (fun _ i _ => (intOf i).toNat)
    case atStart => exact ⟨rfl, rfl, hown0, (Blk.new w 27 #[.int .i64 N, .slice A n c]).alloc _, by go_grown⟩
    case round =>
      obtain ⟨rfl, rfl, hown, hblk, hwr⟩ := hrel
      have yhblk := hblk.two
      go_wp2_with fail
      refine (specIsGraph_is (hX0.up hwr) hn Hg.out).mono ?_
      rintro e w1 ⟨rfl, hb1⟩
      have hU1 : Up wr w1 := Up.then_ (by go_grown) hb1
      replace hown := hown.up hU1
      go_wp2
      go_ret
      exact givesI_of (l := []) (hown.cast rfl rfl) (Up.then_ hwr hU1)
  · obtain rfl : n = k := by rw [← hX0.1, ints_len, h.len]
    rw [sepsOf_ok h]
    have hn7 := h.le
    have hp1 := p2_le hn7
    have hp2 := p2_pos n
    have hsh := shl_p2 (k := n) (by omega)
    go_enter Try.func51, Try.ntmps51
    go_wp2_with fail
    go_loopw [3, 4] (fun v i wr => ∃ (k : Nat) (B : Option Addr) (d : Nat), k ≤ p2 n ∧ i = .int .i64 k ∧ v = .slice B (filtK (minSep Q n) k).length d ∧ OwnI wr w.heap.size B (filtK (minSep Q n) k).length d (ints (filtK (minSep Q n) k)) ∧ Blk wr w.heap.size 27 #[.int .i64 n, .slice A n c] ∧ Below w.heap.size w wr) (fun _ i _ => p2 n - (intOf i).toNat)
    case atStart => exact ⟨0, _, _, by omega, rfl, rfl, hown0.cast rfl rfl, (Blk.new w 27 #[.int .i64 n, .slice A n c]).alloc _, by go_grown⟩
    case round =>
      obtain ⟨k, B, d, hk, rfl, rfl, hown, hblk, hwr⟩ := hrel
      have hfl := filtK_len (minSep Q n) k
      have yhblk := hblk.two
      go_wp2_with fail
      refine (specIsGraph_is (hX0.up hwr) hn h.is).mono ?_
      rintro e w1 ⟨rfl, hb1⟩
      have hU1 : Up wr w1 := Up.then_ (by go_grown) hb1
      replace hblk := hblk.up hU1
      replace hown := hown.up hU1
      have hw1 := Up.then_ hwr hU1
      replace yhblk := hblk.two
      by_cases hlt : k < p2 n
      · have hs : k < 2 ^ n := hlt
        go_wp2_with fail
        refine (specIsMinimalSeparator_ok A n c k Q _ (hX0.up hw1) h hs).mono ?_
        rintro e w3 ⟨rfl, hb3⟩
        have hU3 : Up w1 w3 := Up.then_ (by go_grown) hb3
        replace hblk := hblk.up hU3
        replace hown := hown.up hU3
        have hw3 := Up.then_ hw1 hU3
        have hsz := hw3.size
        have hcell := (Blk.new w3 3 #[.int .i64 (k : Int)]).one
        rcases Bool.eq_false_or_eq_true (minSep Q n k) with e1 | e1
        · have HF := Lib.hid (filtK_yes e1)
          rw [e1]
          clear e1
          go_wp2_with (at_builtin; refine wpList_push rfl (.tmp 20) (.tmp 22) rfl (k : Int) rfl (hown.alloc _) ⟨w3.heap.size, 0, none⟩ rfl hcell (by omega) (by simp; omega) ?_; intro A' c' w5 hown5 hb5 hg5)
          go_roundw
          case rel => exact ⟨k + 1, A', c', by omega, by go_num, by rw [HF.out, ← push_len], hown5.cast (by rw [HF.out, ← push_len]) (by rw [HF.out, ints_snoc]), (hown.alloc _).keeps hg5 (hblk.alloc _) (by decide), (hw3.alloc hsz _).trans hb5⟩
          case measure => simp [intOf]; omega
        · have HF := Lib.hid (filtK_no e1)
          rw [e1]
          clear e1
          go_wp2
          go_roundw
          case rel => exact ⟨k + 1, B, d, by omega, by go_num, by rw [HF.out], hown.cast (by rw [HF.out]) (by rw [HF.out]), hblk, hw3⟩
          case measure => simp [intOf]; omega
      · obtain rfl : k = p2 n := by omega
        go_wp2
        go_ret
        exact givesI_of (l := filtK (minSep Q n) (2 ^ n)) hown hw1
end Go.Proofs.Ytcaoelihmkbedaa
