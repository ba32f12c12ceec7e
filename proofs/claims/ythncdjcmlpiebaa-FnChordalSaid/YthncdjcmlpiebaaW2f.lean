/- Walks of chapter 2: the edges of a graph, the reference's. -/
import Derived.Test.YthncdjcmlpiebaaW2e
import Derived.Test.YthncdjcmlpiebaaW7A
namespace Go.Proofs.Ythncdjcmlpiebaa
open Go.RowKit
set_option maxRecDepth 100000 in
set_option maxHeartbeats 2000000 in
theorem specEdgesOf_any (N : Int) (A : Option Addr) (n c : Nat) (X : List Int) (w : World) (hX : RI w A n X) (hn : n ≤ 9223372036854775807) :
    Calls Try.prog 83 #[.agg #[.int .i64 N, .slice A n c]] w (GivesS ((edgesOf N X).map row2) w) := by
  have hbk := (Blk.new w 26 #[.int .i64 N, .slice A n c]).alloc (.cells #[] 24)
  have hown0 := OwnS.made (w := w.alloc (.cells #[.int .i64 N, .slice A n c] 26)) (g := w.heap.size + 1) (base := w.heap.size + 1) (by simp) (by omega)
  have hyb := hbk.two
  have hU0 : Up w ((w.alloc (.cells #[.int .i64 N, .slice A n c] 26)).alloc (.cells #[] 24)) := by go_grown
  have hz0 : ((w.alloc (.cells #[.int .i64 N, .slice A n c] 26)).alloc (.cells #[] 24)).heap.size = w.heap.size + 2 := by simp
  obtain ⟨W, hW⟩ : ∃ W, W = (w.alloc (.cells #[.int .i64 N, .slice A n c] 26)).alloc (.cells #[] 24) := ⟨_, rfl⟩
  rw [← hW] at hbk hown0 hyb hU0 hz0
  rcases isGraph_cases N X with hg | ⟨k, Q, rfl, rfl, h⟩
  · have H1 := Lib.hid hg
    rw [edgesOf_no hg]
    clear hg
    by_cases hN : 0 < N
    · go_enter Try.func83, Try.ntmps83
      go_wp2_with fail
      rw [← hW]
      clear hW
      go_loopw [3, 4] (fun s i wr => s = .slice (some ⟨w.heap.size + 1, 0, none⟩) 0 0 ∧ i = .int .i64 0 ∧ wr = W) (fun _ _ _ => 0)
      case atStart => exact ⟨rfl, rfl, rfl⟩
      case round =>
        obtain ⟨rfl, rfl, rfl⟩ := hrel
        go_wp2_with fail
        refine (specIsGraph_is (hX.up hU0) hn H1.out).mono ?_
        rintro e w1 ⟨rfl, hb1⟩
        go_wp2
        go_ret
        exact ⟨_, _, [], rfl, rfl, (hown0.up hb1).more (by omega), Up.then_ hU0 hb1⟩
    · go_enter Try.func83, Try.ntmps83
      go_wp2_with fail
      rw [← hW]
      clear hW
      go_loopw [3, 4] (fun s i wr => s = .slice (some ⟨w.heap.size + 1, 0, none⟩) 0 0 ∧ i = .int .i64 0 ∧ wr = W) (fun _ _ _ => 0)
      case atStart => exact ⟨rfl, rfl, rfl⟩
      case round =>
        obtain ⟨rfl, rfl, rfl⟩ := hrel
        go_wp2
        go_ret
        exact ⟨_, _, [], rfl, rfl, hown0.more (by omega), hU0⟩
  · obtain rfl : n = k := by rw [← hX.1, ints_len, h.len]
    rw [edgesOf_ok h]
    have h7 := h.le
    have HG := Lib.hid h
    have HlV := Lib.hid fun v x => edgV_len Q v x
    have HlK := Lib.hid fun k => edgK_len Q n k
    obtain ⟨R, hR⟩ : ∃ R, R = edges Q n := ⟨_, rfl⟩
    rw [← hR]
    have HR := Lib.hid (show edgK Q n n = R from hR.symm)
    clear hR
    have hXw := Lib.hid hX
    go_enter Try.func83, Try.ntmps83
    go_wp2_with fail
    rw [← hW]
    clear hW hyb
    go_loopw [3, 4] (fun s i wr => ∃ (v : Nat) (A' : Option Addr) (c' : Nat) (ps : List RowP), v ≤ n ∧ i = .int .i64 v ∧ s = .slice A' ps.length c' ∧ OwnS wr (w.heap.size + 1) A' ps.length c' ps ∧ Hid (ps.map Prod.snd = (edgK Q n v).map row2) ∧ Below (w.heap.size + 1) W wr) (fun _ i _ => n - (intOf i).toNat)
    case atStart => exact ⟨0, _, _, [], Nat.zero_le _, rfl, rfl, hown0, rfl, Below.refl _ _⟩
    case round =>
      clear hown0
      obtain ⟨v, A', c', ps, hv, rfl, rfl, hown, hps, hb⟩ := hrel
      obtain ⟨wo, rfl⟩ : ∃ wo : World, wo = wr := ⟨_, rfl⟩
      have hUo : Up w wo := hU0.trans (hb.mono (by omega))
      have hbo := hbk.below hb (by omega)
      have hyo := hbo.two
      by_cases hvn : v < n
      · go_wp2_with fail
        refine (specIsGraph_is (hXw.out.up hUo) (by omega) HG.out.is).mono ?_
        rintro e w1 ⟨rfl, hb1⟩
        replace hown := hown.up hb1
        replace hbo := hbo.up hb1
        have hy1 := hbo.two
        have hs1 := hb.size
        have hb' := hb.trans (hb1.mono (by omega) : Below (w.heap.size + 1) wo w1)
        clear hyo
        go_wp2_with fail
        go_loopw [3, 5] (fun s i wr => ∃ (x : Nat) (A' : Option Addr) (c' : Nat) (ps : List RowP), v < x ∧ x ≤ n ∧ i = .int .i64 x ∧ s = .slice A' ps.length c' ∧ OwnS wr (w.heap.size + 1) A' ps.length c' ps ∧ Hid (ps.map Prod.snd = (edgK Q n v ++ edgV Q v x).map row2) ∧ Below (w.heap.size + 1) W wr) (fun _ i _ => n - (intOf i).toNat)
        case atStart => exact ⟨v + 1, A', c', ps, by omega, by omega, by go_num, rfl, hown, by rw [edgV_low Q v (v + 1) (by omega), List.append_nil]; exact hps.out, hb'⟩
        case round =>
          clear hown hps hb' hy1 hbo
          obtain ⟨x, A2, c2, qs, hvx, hx, rfl, rfl, hown, hqs, hb2⟩ := hrel
          obtain ⟨wi, rfl⟩ : ∃ wi : World, wi = wr := ⟨_, rfl⟩
          have hbi := hbk.below hb2 (by omega)
          have hyi := hbi.two
          by_cases hxn : x < n
          · have hql : qs.length ≤ 49 + 7 := by
              have h1 := congrArg List.length hqs.out
              have h2 := HlK.out v
              have h3 := HlV.out v x
              have h4 : v * n ≤ 7 * 7 := Nat.mul_le_mul (by omega) h7
              simp at h1
              omega
            have hXi := hXw.out.up (hU0.trans (hb2.mono (by omega)) : Up w wi)
            rcases Bool.eq_false_or_eq_true (edge Q v x) with e1 | e1
            · have H1 := Lib.hid (show (nb Q v).testBit x = true from e1)
              have HN := Lib.hid (show (qs.map Prod.snd) ++ [[(v : Int), (x : Int)]] = (edgK Q n v ++ edgV Q v (x + 1)).map row2 by
                rw [hqs.out, edgV_yes hvx e1]; simp [row2])
              clear e1
              go_wp2_with fail
              refine (l2Edge_is hXi HG.out hvn (by omega) H1.out).mono ?_
              rintro e w3 ⟨rfl, hb3⟩
              replace hown := hown.up hb3
              have hs2 := hb2.size
              have hs3 := hb3.size
              have hb23 := hb2.trans (hb3.mono (by omega) : Below (w.heap.size + 1) wi w3)
              have hrow := (row2_own (w := w3) (g := w3.heap.size) (base := w.heap.size + 1) rfl (by omega) (v : Int) (x : Int)).alloc (.cells #[.slice (some ⟨w3.heap.size, 0, none⟩) 2 2] 24)
              have hcell := cell_lit (w := w3.alloc (.cells #[.int .i64 (v : Int), .int .i64 (x : Int)] 3)) (g := w3.heap.size + 1) (e := 24) (y := .slice (some ⟨w3.heap.size, 0, none⟩) 2 2) (by simp)
              have hap := new_apart hown (Nat.le_refl _)
              clear hyi hXi
              go_wp2_with (at_builtin; refine wpList_pushS rfl (.tmp 29) (.tmp 33) rfl ((some ⟨w3.heap.size, 0, none⟩, 2), [(v : Int), (x : Int)]) rfl ((hown.alloc _).alloc _) ⟨w3.heap.size + 1, 0, none⟩ rfl hcell hrow (fun q hq j hj e => hap q hq j hj e) (by omega) (by simp; omega) ?_; intro A7 c7 w7 hown7 hg7 hb7)
              go_roundw
              case rel =>
                exact ⟨x + 1, A7, c7, qs ++ [((some ⟨w3.heap.size, 0, none⟩, 2), [(v : Int), (x : Int)])], by omega, by omega, by go_num, by rw [snoc_lenS], by rw [snoc_lenS]; exact hown7, by rw [List.map_append]; exact HN.out, ((hb23.alloc (by omega) _).alloc (by simp; omega) _).trans hb7⟩
              case measure => simp [intOf]; omega
            · have H1 := Lib.hid (show (nb Q v).testBit x = false from e1)
              have HN := Lib.hid (show edgV Q v x = edgV Q v (x + 1) from (edgV_no e1).symm)
              clear e1
              go_wp2_with fail
              refine (l2Edge_is hXi HG.out hvn (by omega) H1.out).mono ?_
              rintro e w3 ⟨rfl, hb3⟩
              have hs2 := hb2.size
              clear hyi hXi
              go_wp2
              go_roundw
              case rel => exact ⟨x + 1, A2, c2, qs, by omega, by omega, by go_num, rfl, hown.up hb3, by rw [← HN.out]; exact hqs.out, hb2.trans (hb3.mono (by omega) : Below (w.heap.size + 1) wi w3)⟩
              case measure => simp [intOf]; omega
          · obtain rfl : x = n := by omega
            go_wp2
            go_roundw
            case rel => exact ⟨v + 1, A2, c2, qs, by omega, by go_num, rfl, hown, hqs, hb2⟩
            case measure => simp [intOf]; omega
      · obtain rfl : v = n := by omega
        have HE := Lib.hid (show ps.map Prod.snd = R.map row2 by rw [← HR.out]; exact hps.out)
        go_wp2
        go_ret
        exact ⟨A', c', ps, HE.out, rfl, hown.more (by omega), hUo⟩
end Go.Proofs.Ythncdjcmlpiebaa
