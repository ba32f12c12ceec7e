/- Walks of chapter 13: what an arc forces at once, the reference's. -/
import Derived.Test.YtlcmfangecbdgaaPure13f
import Derived.Test.YtlcmfangecbdgaaW2e
import Derived.Test.YtlcmfangecbdgaaW7c
namespace Go.Proofs.Ytlcmfangecbdgaa
open Go.RowKit
theorem push2 {ps : List RowP} {xs : List (Nat × Nat)} {v w : Nat} {p : RowP} (h : ps.map Prod.snd = xs.map row2) (hp : p.2 = [(v : Int), (w : Int)]) : (ps ++ [p]).map Prod.snd = (xs ++ [(v, w)]).map row2 := by
  rw [List.map_append, h, List.map_append]
  simp [hp, row2]
set_option maxRecDepth 100000 in
set_option maxHeartbeats 4000000 in
theorem l13Next_any (A : Option Addr) (n c a b : Nat) (Q : List Nat) (w : World) (hX : RI w A n (ints Q)) (h : GOk n Q) (ha : a < n) (hb : b < n) :
    Calls Try.prog 59 #[.agg #[.int .i64 n, .slice A n c], .int .i64 a, .int .i64 b] w (GivesS ((nxt Q n a b).map row2) w) := by
  have hbk := (Blk.new w 27 #[.int .i64 n, .slice A n c]).alloc (.cells #[] 22)
  have hown0 := OwnS.made (w := w.alloc (.cells #[.int .i64 n, .slice A n c] 27)) (g := w.heap.size + 1) (base := w.heap.size + 1) (by simp) (by omega)
  have hU0 : Up w ((w.alloc (.cells #[.int .i64 n, .slice A n c] 27)).alloc (.cells #[] 22)) := by go_grown
  have h7 := h.le
  have HlV := Lib.hid fun v x => nxtV_len Q a b v x
  have HlK := Lib.hid fun k => nxtK_len Q n a b k
  obtain ⟨W, hW⟩ : ∃ W, W = (w.alloc (.cells #[.int .i64 n, .slice A n c] 27)).alloc (.cells #[] 22) := ⟨_, rfl⟩
  rw [← hW] at hbk hown0 hU0
  go_enter Try.func59, Try.ntmps59
  go_wp2_with fail
  rw [← hW]
  clear hW
  go_loopw [7, 8] (fun s i wr => ∃ (v : Nat) (A' : Option Addr) (c' : Nat) (ps : List RowP), v ≤ n ∧ i = .int .i64 v ∧ s = .slice A' ps.length c' ∧ OwnS wr (w.heap.size + 1) A' ps.length c' ps ∧ Hid (ps.map Prod.snd = (nxtK Q n a b v).map row2) ∧ Blk wr w.heap.size 27 #[.int .i64 n, .slice A n c] ∧ Below (w.heap.size + 1) W wr) (fun _ i _ => n - (intOf i).toNat)
  case atStart => exact ⟨0, _, _, [], Nat.zero_le _, rfl, rfl, hown0, rfl, hbk, Below.refl _ _⟩
  case round =>
    clear hown0 hbk
    obtain ⟨v, A', c', ps, hv, rfl, rfl, hown, hps, hbk, hbw⟩ := hrel
    obtain ⟨wo, rfl⟩ : ∃ wo : World, wo = wr := ⟨_, rfl⟩
    have hyo := hbk.two
    have hlo := hbk.lt
    by_cases hvn : v < n
    · go_wp2_with fail
      go_loopw [7, 9] (fun s i wr => ∃ (x : Nat) (A' : Option Addr) (c' : Nat) (ps : List RowP), x ≤ n ∧ i = .int .i64 x ∧ s = .slice A' ps.length c' ∧ OwnS wr (w.heap.size + 1) A' ps.length c' ps ∧ Hid (ps.map Prod.snd = (nxtK Q n a b v ++ nxtV Q a b v x).map row2) ∧ Blk wr w.heap.size 27 #[.int .i64 n, .slice A n c] ∧ Below (w.heap.size + 1) W wr) (fun _ i _ => n - (intOf i).toNat)
      case atStart => exact ⟨0, A', c', ps, Nat.zero_le _, rfl, rfl, hown, by rw [show nxtV Q a b v 0 = [] from rfl, List.append_nil]; exact hps.out, hbk, hbw⟩
      case round =>
        clear hown hps hbk hyo hlo hbw
        obtain ⟨x, A2, c2, qs, hx, rfl, rfl, hown, hqs, hbk, hb2⟩ := hrel
        obtain ⟨wi, rfl⟩ : ∃ wi : World, wi = wr := ⟨_, rfl⟩
        have hyi := hbk.two
        have hli := hbk.lt
        by_cases hxn : x < n
        · have hql : qs.length ≤ 49 + 7 := by
            have h1 := congrArg List.length hqs.out
            have h2 := HlK.out v
            have h3 := HlV.out v x
            have h4 : v * n ≤ 7 * 7 := Nat.mul_le_mul (by omega) h7
            simp at h1
            omega
          have hUi : Up w wi := hU0.trans (hb2.mono (by omega))
          have hXi := hX.up hUi
          have HAt := Lib.hid (show nxtAt Q a b v x = (edge Q v x && ((decide (v = a) && decide (x ≠ b) && !edge Q x b) || (decide (x = b) && decide (v ≠ a) && !edge Q v a))) from rfl)
          have HY := Lib.hid (nxtV_yes (Q := Q) (a := a) (b := b) (v := v) (w := x))
          have HN := Lib.hid (nxtV_no (Q := Q) (a := a) (b := b) (v := v) (w := x))
          rcases Bool.eq_false_or_eq_true (edge Q v x) with e1 | e1
          · by_cases hva : v = a
            · have d1 : ((v : Int) == (a : Int)) = true := by rw [beq_iff_eq]; omega
              have d1n : ((v : Int) != (a : Int)) = false := by rw [bne_eq_false_iff_eq]; omega
              by_cases hxb : x = b
              · have d2 : ((x : Int) != (b : Int)) = false := by rw [bne_eq_false_iff_eq]; omega
                have d3 : ((x : Int) == (b : Int)) = true := by rw [beq_iff_eq]; omega
                have HR := Lib.hid (HN.out (by rw [HAt.out, e1]; simp [hva, hxb]))
                try clear hva
                try clear hxb
                clear HAt HY HN HlV HlK
                go_wp2_with fail
                refine (l2Edge_is (hXi) h hvn hxn e1).mono ?_
                rintro e wq0 ⟨rfl, hbq0⟩
                have hUq0 : Up wi wq0 := hbq0
                have hbkq0 := hbk.up hUq0
                have hyq0 := hbkq0.two
                have hlq0 := hbkq0.lt
                go_wp2
                go_roundw
                case rel => exact ⟨x + 1, A2, c2, qs, by omega, by go_num, rfl, hown.up hUq0, by rw [HR.out]; exact hqs.out, hbkq0, hb2.trans (hUq0.mono (by have := hb2.size; have := hU0.size; omega))⟩
                case measure => simp [intOf]; omega
              · have d2 : ((x : Int) != (b : Int)) = true := by rw [bne_iff_ne]; omega
                have d3 : ((x : Int) == (b : Int)) = false := by rw [beq_eq_false_iff_ne]; omega
                rcases Bool.eq_false_or_eq_true (edge Q x b) with e2 | e2
                · skip
                  have HR := Lib.hid (HN.out (by rw [HAt.out, e1, e2]; simp [hva, hxb]))
                  try clear hva
                  try clear hxb
                  clear HAt HY HN HlV HlK
                  go_wp2_with fail
                  refine (l2Edge_is (hXi) h hvn hxn e1).mono ?_
                  rintro e wq0 ⟨rfl, hbq0⟩
                  have hUq0 : Up wi wq0 := hbq0
                  have hbkq0 := hbk.up hUq0
                  have hyq0 := hbkq0.two
                  have hlq0 := hbkq0.lt
                  go_wp2_with fail
                  refine (l2Edge_is (hXi.up hUq0) h hxn hb e2).mono ?_
                  rintro e wq1 ⟨rfl, hbq1⟩
                  have hUq1 : Up wi wq1 := Up.then_ hUq0 hbq1
                  have hbkq1 := hbk.up hUq1
                  have hyq1 := hbkq1.two
                  have hlq1 := hbkq1.lt
                  go_wp2
                  go_roundw
                  case rel => exact ⟨x + 1, A2, c2, qs, by omega, by go_num, rfl, hown.up hUq1, by rw [HR.out]; exact hqs.out, hbkq1, hb2.trans (hUq1.mono (by have := hb2.size; have := hU0.size; omega))⟩
                  case measure => simp [intOf]; omega
                · skip
                  have HR := Lib.hid (HY.out (by rw [HAt.out, e1, e2]; simp [hva, hxb]))
                  try clear hva
                  try clear hxb
                  clear HAt HY HN HlV HlK
                  go_wp2_with fail
                  refine (l2Edge_is (hXi) h hvn hxn e1).mono ?_
                  rintro e wq0 ⟨rfl, hbq0⟩
                  have hUq0 : Up wi wq0 := hbq0
                  have hbkq0 := hbk.up hUq0
                  have hyq0 := hbkq0.two
                  have hlq0 := hbkq0.lt
                  go_wp2_with fail
                  refine (l2Edge_is (hXi.up hUq0) h hxn hb e2).mono ?_
                  rintro e wq1 ⟨rfl, hbq1⟩
                  have hUq1 : Up wi wq1 := Up.then_ hUq0 hbq1
                  have hbkq1 := hbk.up hUq1
                  have hyq1 := hbkq1.two
                  have hlq1 := hbkq1.lt
                  have hownq := hown.up hUq1
                  have hb5 : Below (w.heap.size + 1) W wq1 := hb2.trans (hUq1.mono (by have := hb2.size; have := hU0.size; omega))
                  have hsz5 : w.heap.size + 1 ≤ wq1.heap.size := by have := hlq1; omega
                  have hrow := (row2_own (w := wq1) (g := wq1.heap.size) (base := w.heap.size + 1) rfl hsz5 (v : Int) (x : Int)).alloc (.cells #[.slice (some ⟨wq1.heap.size, 0, none⟩) 2 2] 22)
                  have hcell := cell_lit (w := wq1.alloc (.cells #[.int .i64 (v : Int), .int .i64 (x : Int)] 3)) (g := wq1.heap.size + 1) (e := 22) (y := .slice (some ⟨wq1.heap.size, 0, none⟩) 2 2) (by simp)
                  have hap := new_apart hownq (Nat.le_refl _)
                  have hbk5 := (hbkq1.alloc (.cells #[.int .i64 (v : Int), .int .i64 (x : Int)] 3)).alloc (.cells #[.slice (some ⟨wq1.heap.size, 0, none⟩) 2 2] 22)
                  go_wp2_with (at_builtin; refine wpList_pushS rfl (.tmp 61) (.tmp 65) rfl ((some ⟨wq1.heap.size, 0, none⟩, 2), [(v : Int), (x : Int)]) rfl ((hownq.alloc _).alloc _) ⟨wq1.heap.size + 1, 0, none⟩ rfl hcell hrow (fun q hq j hj e => hap q hq j hj e) (by omega) (by simp; omega) ?_; intro A7 c7 w7 hown7 hg7 hb7)
                  have hbk7 : Blk w7 w.heap.size 27 #[.int .i64 n, .slice A n c] := hbk5.below hb7 (by omega)
                  go_roundw
                  case rel => exact ⟨x + 1, A7, c7, qs ++ [((some ⟨wq1.heap.size, 0, none⟩, 2), [(v : Int), (x : Int)])], by omega, by go_num, by rw [snoc_lenS], by rw [snoc_lenS]; exact hown7, by rw [HR.out, ← List.append_assoc]; exact push2 hqs.out rfl, hbk7, ((hb5.alloc hsz5 _).alloc (by simp; omega) _).trans hb7⟩
                  case measure => simp [intOf]; omega
            · have d1 : ((v : Int) == (a : Int)) = false := by rw [beq_eq_false_iff_ne]; omega
              have d1n : ((v : Int) != (a : Int)) = true := by rw [bne_iff_ne]; omega
              by_cases hxb : x = b
              · have d3 : ((x : Int) == (b : Int)) = true := by rw [beq_iff_eq]; omega
                rcases Bool.eq_false_or_eq_true (edge Q v a) with e2 | e2
                · skip
                  have HR := Lib.hid (HN.out (by rw [HAt.out, e1, e2]; simp [hva]))
                  try clear hva
                  try clear hxb
                  clear HAt HY HN HlV HlK
                  go_wp2_with fail
                  refine (l2Edge_is (hXi) h hvn hxn e1).mono ?_
                  rintro e wq0 ⟨rfl, hbq0⟩
                  have hUq0 : Up wi wq0 := hbq0
                  have hbkq0 := hbk.up hUq0
                  have hyq0 := hbkq0.two
                  have hlq0 := hbkq0.lt
                  go_wp2_with fail
                  refine (l2Edge_is (hXi.up hUq0) h hvn ha e2).mono ?_
                  rintro e wq1 ⟨rfl, hbq1⟩
                  have hUq1 : Up wi wq1 := Up.then_ hUq0 hbq1
                  have hbkq1 := hbk.up hUq1
                  have hyq1 := hbkq1.two
                  have hlq1 := hbkq1.lt
                  go_wp2
                  go_roundw
                  case rel => exact ⟨x + 1, A2, c2, qs, by omega, by go_num, rfl, hown.up hUq1, by rw [HR.out]; exact hqs.out, hbkq1, hb2.trans (hUq1.mono (by have := hb2.size; have := hU0.size; omega))⟩
                  case measure => simp [intOf]; omega
                · skip
                  have HR := Lib.hid (HY.out (by rw [HAt.out, e1, e2]; simp [hva, hxb]))
                  try clear hva
                  try clear hxb
                  clear HAt HY HN HlV HlK
                  go_wp2_with fail
                  refine (l2Edge_is (hXi) h hvn hxn e1).mono ?_
                  rintro e wq0 ⟨rfl, hbq0⟩
                  have hUq0 : Up wi wq0 := hbq0
                  have hbkq0 := hbk.up hUq0
                  have hyq0 := hbkq0.two
                  have hlq0 := hbkq0.lt
                  go_wp2_with fail
                  refine (l2Edge_is (hXi.up hUq0) h hvn ha e2).mono ?_
                  rintro e wq1 ⟨rfl, hbq1⟩
                  have hUq1 : Up wi wq1 := Up.then_ hUq0 hbq1
                  have hbkq1 := hbk.up hUq1
                  have hyq1 := hbkq1.two
                  have hlq1 := hbkq1.lt
                  have hownq := hown.up hUq1
                  have hb5 : Below (w.heap.size + 1) W wq1 := hb2.trans (hUq1.mono (by have := hb2.size; have := hU0.size; omega))
                  have hsz5 : w.heap.size + 1 ≤ wq1.heap.size := by have := hlq1; omega
                  have hrow := (row2_own (w := wq1) (g := wq1.heap.size) (base := w.heap.size + 1) rfl hsz5 (v : Int) (x : Int)).alloc (.cells #[.slice (some ⟨wq1.heap.size, 0, none⟩) 2 2] 22)
                  have hcell := cell_lit (w := wq1.alloc (.cells #[.int .i64 (v : Int), .int .i64 (x : Int)] 3)) (g := wq1.heap.size + 1) (e := 22) (y := .slice (some ⟨wq1.heap.size, 0, none⟩) 2 2) (by simp)
                  have hap := new_apart hownq (Nat.le_refl _)
                  have hbk5 := (hbkq1.alloc (.cells #[.int .i64 (v : Int), .int .i64 (x : Int)] 3)).alloc (.cells #[.slice (some ⟨wq1.heap.size, 0, none⟩) 2 2] 22)
                  go_wp2_with (at_builtin; refine wpList_pushS rfl (.tmp 61) (.tmp 65) rfl ((some ⟨wq1.heap.size, 0, none⟩, 2), [(v : Int), (x : Int)]) rfl ((hownq.alloc _).alloc _) ⟨wq1.heap.size + 1, 0, none⟩ rfl hcell hrow (fun q hq j hj e => hap q hq j hj e) (by omega) (by simp; omega) ?_; intro A7 c7 w7 hown7 hg7 hb7)
                  have hbk7 : Blk w7 w.heap.size 27 #[.int .i64 n, .slice A n c] := hbk5.below hb7 (by omega)
                  go_roundw
                  case rel => exact ⟨x + 1, A7, c7, qs ++ [((some ⟨wq1.heap.size, 0, none⟩, 2), [(v : Int), (x : Int)])], by omega, by go_num, by rw [snoc_lenS], by rw [snoc_lenS]; exact hown7, by rw [HR.out, ← List.append_assoc]; exact push2 hqs.out rfl, hbk7, ((hb5.alloc hsz5 _).alloc (by simp; omega) _).trans hb7⟩
                  case measure => simp [intOf]; omega
              · have d3 : ((x : Int) == (b : Int)) = false := by rw [beq_eq_false_iff_ne]; omega
                have HR := Lib.hid (HN.out (by rw [HAt.out, e1]; simp [hva, hxb]))
                try clear hva
                try clear hxb
                clear HAt HY HN HlV HlK
                go_wp2_with fail
                refine (l2Edge_is (hXi) h hvn hxn e1).mono ?_
                rintro e wq0 ⟨rfl, hbq0⟩
                have hUq0 : Up wi wq0 := hbq0
                have hbkq0 := hbk.up hUq0
                have hyq0 := hbkq0.two
                have hlq0 := hbkq0.lt
                go_wp2
                go_roundw
                case rel => exact ⟨x + 1, A2, c2, qs, by omega, by go_num, rfl, hown.up hUq0, by rw [HR.out]; exact hqs.out, hbkq0, hb2.trans (hUq0.mono (by have := hb2.size; have := hU0.size; omega))⟩
                case measure => simp [intOf]; omega
          · skip
            have HR := Lib.hid (HN.out (by rw [HAt.out, e1]; rfl))
            try clear hva
            try clear hxb
            clear HAt HY HN HlV HlK
            go_wp2_with fail
            refine (l2Edge_is (hXi) h hvn hxn e1).mono ?_
            rintro e wq0 ⟨rfl, hbq0⟩
            have hUq0 : Up wi wq0 := hbq0
            have hbkq0 := hbk.up hUq0
            have hyq0 := hbkq0.two
            have hlq0 := hbkq0.lt
            go_wp2
            go_roundw
            case rel => exact ⟨x + 1, A2, c2, qs, by omega, by go_num, rfl, hown.up hUq0, by rw [HR.out]; exact hqs.out, hbkq0, hb2.trans (hUq0.mono (by have := hb2.size; have := hU0.size; omega))⟩
            case measure => simp [intOf]; omega
        · obtain rfl : x = n := by omega
          go_wp2
          go_roundw
          case rel => exact ⟨v + 1, A2, c2, qs, by omega, by go_num, rfl, hown, hqs.out, hbk, hb2⟩
          case measure => simp [intOf]; omega
    · obtain rfl : v = n := by omega
      have HP := Lib.hid (show ps.map Prod.snd = (nxt Q v a b).map row2 from hps.out)
      have hUw : Up w wo := hU0.trans (hbw.mono (by omega))
      go_wp2
      go_ret
      exact ⟨A', c', ps, HP.out, rfl, hown.more (by omega), hUw⟩
end Go.Proofs.Ytlcmfangecbdgaa
