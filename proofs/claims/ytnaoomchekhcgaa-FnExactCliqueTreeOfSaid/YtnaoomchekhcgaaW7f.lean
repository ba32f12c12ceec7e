/- Walks of chapter 7: the reference's maximal cliques. -/
import Derived.Test.YtnaoomchekhcgaaW7e
namespace Go.Proofs.Ytnaoomchekhcgaa
open Go.RowKit
set_option maxRecDepth 100000 in
set_option maxHeartbeats 2000000 in
theorem specMaximalCliques_any (N : Int) (A : Option Addr) (n c : Nat) (X : List Int) (w : World) (hX : RI w A n X) (hn : n ≤ 9223372036854775807) :
    Calls Try.prog 46 #[.agg #[.int .i64 N, .slice A n c]] w (GivesI (ints (maxCliquesOf N X)) w) := by
  rcases isGraph_cases N X with hg | ⟨k, Q, rfl, rfl, h⟩
  · have Hg := Lib.hid hg
    rw [maxCliquesOf_no hg]
    clear hg
    have hown0 : OwnI ((w.alloc (.cells #[.int .i64 N, .slice A n c] 27)).alloc (.cells #[] 3)) w.heap.size (some ⟨w.heap.size + 1, 0, none⟩) 0 0 [] := by
      have hh := OwnI.made (base := w.heap.size) (w.alloc (.cells #[.int .i64 N, .slice A n c] 27)) (by simp)
      have e : (w.alloc (.cells #[.int .i64 N, .slice A n c] 27)).heap.size = w.heap.size + 1 := by simp
      rw [e] at hh
      exact hh
    go_enter Try.func46, Try.ntmps46
    go_wp2_with fail
    refine wp_loop_rounds 1 ?_
    rw [rounds_succ]
    go_wp2_with fail
    refine (specIsGraph_is (hX.up (by go_grown)) hn Hg.out).mono ?_
    rintro e w1 ⟨rfl, hb1⟩
    have hw1 : Below w.heap.size w w1 := Up.then_ (by go_grown) hb1
    replace hown0 := hown0.up hb1
    go_wp2
    go_ret
    exact givesI_of (l := []) (hown0.cast rfl rfl) hw1
  · obtain rfl : n = k := by rw [← hX.1, ints_len, h.len]
    rw [maxCliquesOf_ok h]
    have hn7 := h.le
    have hp1 := p2_le hn7
    have hp2 := p2_pos n
    have hp := shl_p2 (k := n) (by omega)
    have hown0 : OwnI ((w.alloc (.cells #[.int .i64 n, .slice A n c] 27)).alloc (.cells #[] 3)) w.heap.size (some ⟨w.heap.size + 1, 0, none⟩) 0 0 [] := by
      have hh := OwnI.made (base := w.heap.size) (w.alloc (.cells #[.int .i64 n, .slice A n c] 27)) (by simp)
      have e : (w.alloc (.cells #[.int .i64 n, .slice A n c] 27)).heap.size = w.heap.size + 1 := by simp
      rw [e] at hh
      exact hh
    go_enter Try.func46, Try.ntmps46
    go_wp2_with fail
    go_loopw [3, 4] (fun v i wr => ∃ (k : Nat) (B : Option Addr) (d : Nat), k + 1 ≤ p2 n ∧ i = .int .i64 ((k : Int) + 1) ∧ v = .slice B (maxK Q n k).length d ∧ OwnI wr w.heap.size B (maxK Q n k).length d (ints (maxK Q n k)) ∧ Blk wr w.heap.size 27 #[.int .i64 n, .slice A n c] ∧ Below w.heap.size w wr) (fun _ i _ => p2 n - (intOf i).toNat)
    case atStart => exact ⟨0, _, _, by omega, rfl, rfl, hown0.cast rfl rfl, (Blk.new w 27 #[.int .i64 n, .slice A n c]).alloc _, by go_grown⟩
    case round =>
      obtain ⟨k, B, d, hk, rfl, rfl, hown, hblk, hwr⟩ := hrel
      obtain ⟨wo, rfl⟩ : ∃ wo : World, wo = wr := ⟨_, rfl⟩
      have hml := maxK_len Q n k
      have hyb := hblk.two
      go_wp2_with fail
      refine (specIsGraph_is (hX.up hwr) hn h.is).mono ?_
      rintro e w2 ⟨rfl, hb2⟩
      have hw2 := Up.then_ hwr hb2
      replace hblk := hblk.up hb2
      replace hyb := hblk.two
      replace hown := hown.up hb2
      by_cases hlt : k + 1 < p2 n
      · have hs : k + 1 < 2 ^ n := hlt
        have hs7 := h.n7 hs
        have e1 : Hid (((k : Int) + 1) = ((k + 1 : Nat) : Int)) := (by omega : ((k : Int) + 1) = ((k + 1 : Nat) : Int))
        go_wp2_with fail
        rw [e1.out]
        refine (specIsClique_ok (s := k + 1) (hX.up hw2) h hs).mono ?_
        rintro e w3 ⟨rfl, hb3⟩
        have hw3 := Up.then_ hw2 hb3
        replace hblk := hblk.up hb3
        replace hyb := hblk.two
        replace hown := hown.up hb3
        obtain ⟨S, hS⟩ : ∃ S : Nat, S = k + 1 := ⟨_, rfl⟩
        rw [← hS] at hs hs7
        rw [← hS]
        have HS := Lib.hid hS
        have hSp : S < p2 n := by omega
        have hdec : decide (S < p2 n) = true := decide_eq_true hSp
        clear hS
        rcases Bool.eq_false_or_eq_true (clq Q S) with e3 | e3
        · have H3 := Lib.hid e3
          rw [e3]
          clear e3
          go_wp2_with fail
          go_loopw [5, 6] (fun q i wr => ∃ v : Nat, v ≤ n ∧ i = .int .i64 v ∧ q = .bool (standsK Q S v) ∧ Below w3.heap.size w3 wr) (fun _ i _ => n - (intOf i).toNat)
          case atStart => exact ⟨0, Nat.zero_le _, rfl, rfl, Below.refl _ _⟩
          case round =>
            obtain ⟨v, hv, rfl, rfl, hb4⟩ := hrel
            have hw4 := Up.then_ hw3 hb4
            have hblk4 := hblk.up hb4
            have hyb4 := hblk4.two
            have hown4 := hown.up hb4
            by_cases hvt : v < n
            · obtain ⟨a, rfl, hca⟩ := (hX.up hw4).nb_at hvt
              have hbit := bit_one S v (by omega)
              rcases Bool.eq_false_or_eq_true (standsK Q S v) with e2 | e2
              · have H2 := Lib.hid e2
                rw [e2]
                rcases Bool.eq_false_or_eq_true (S.testBit v) with e5 | e5
                · have HK := Lib.hid (standsK_yes e2 (stands_in e5))
                  rw [e5] at hbit
                  clear e2 e5
                  go_wp2
                  go_roundw
                  case rel => exact ⟨v + 1, by omega, by go_num, by rw [HK.out], hb4⟩
                  case measure => simp [intOf]; omega
                · have hand := i64_and7 (h.nb7 v) hs7
                  have hst := (stands_out (Q := Q) e5).trans dif_zero
                  rw [e5] at hbit
                  rcases Bool.eq_false_or_eq_true (nb Q v &&& S != S) with e6 | e6
                  · have HK := Lib.hid (standsK_yes e2 (hst.trans e6))
                    have hne : (((nb Q v &&& S : Nat) : Int) != (S : Int)) = true := by
                      rw [bne_iff_ne] at e6 ⊢
                      omega
                    clear e2 e5 e6 hst
                    go_wp2
                    go_roundw
                    case rel => exact ⟨v + 1, by omega, by go_num, by rw [HK.out], hb4⟩
                    case measure => simp [intOf]; omega
                  · have HK := Lib.hid (standsK_no (hst.trans e6))
                    have hne : nb Q v &&& S = S := by simpa using e6
                    rw [hne] at hand
                    clear e2 e5 e6 hst hne
                    go_wp2
                    go_roundw
                    case rel => exact ⟨v + 1, by omega, by go_num, by rw [HK.out], hb4⟩
                    case measure => simp [intOf]; omega
              · have HK := Lib.hid (standsK_off e2)
                rw [e2]
                clear e2
                go_wp2
                go_roundw
                case rel => exact ⟨v + 1, by omega, by go_num, by rw [HK.out], hb4⟩
                case measure => simp [intOf]; omega
            · obtain rfl : v = n := by omega
              have hsz := hw4.size
              have hcell := (Blk.new wr 3 #[.int .i64 (S : Int)]).one
              rcases Bool.eq_false_or_eq_true (standsK Q S v) with e2 | e2
              · have HM := Lib.hid (maxK_yes (show maxi Q v (k + 1) = true by rw [← HS.out, maxi_yes H3.out]; exact e2))
                rw [e2]
                clear e2
                go_wp2_with (at_builtin; refine wpList_push rfl (.tmp 49) (.tmp 51) rfl (S : Int) rfl (hown4.alloc _) ⟨wr.heap.size, 0, none⟩ rfl hcell (by omega) (by simp; omega) ?_; intro A' c' w5 hown5 hb5 hg5)
                go_roundw
                case rel => exact ⟨k + 1, A', c', by omega, by rw [← HS.out]; try go_num, by rw [HM.out, ← push_len], hown5.cast (by rw [HM.out, ← push_len]) (by rw [HM.out, ← HS.out, ints_snoc]), (hown4.alloc _).keeps hg5 (hblk4.alloc _) (by decide), (hw4.alloc hsz _).trans hb5⟩
                case measure => have := HS.out; simp [intOf]; omega
              · have HM := Lib.hid (maxK_no (show maxi Q v (k + 1) = false by rw [← HS.out, maxi_yes H3.out]; exact e2))
                rw [e2]
                clear e2
                go_wp2
                go_roundw
                case rel => exact ⟨k + 1, B, d, by omega, by rw [← HS.out]; try go_num, by rw [HM.out], hown4.cast (by rw [HM.out]) (by rw [HM.out]), hblk4, hw4⟩
                case measure => have := HS.out; simp [intOf]; omega
        · have HM := Lib.hid (maxK_no (show maxi Q n (k + 1) = false by rw [← HS.out]; exact maxi_no e3))
          rw [e3]
          clear e3
          go_wp2
          go_roundw
          case rel => exact ⟨k + 1, B, d, by omega, by rw [← HS.out]; try go_num, by rw [HM.out], hown.cast (by rw [HM.out]) (by rw [HM.out]), hblk, hw3⟩
          case measure => have := HS.out; simp [intOf]; omega
      · obtain rfl : k = p2 n - 1 := by omega
        have hend : ((p2 n - 1 : Nat) : Int) + 1 = (p2 n : Int) := by omega
        rw [hend]
        go_wp2
        go_ret
        exact givesI_of (l := maxCliques Q n) hown hw2
end Go.Proofs.Ytnaoomchekhcgaa
