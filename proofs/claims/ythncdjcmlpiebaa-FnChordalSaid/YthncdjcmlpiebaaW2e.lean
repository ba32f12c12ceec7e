/- Walks of chapter 2: the edges of a graph; chapter 12: the band of an order. -/
import Derived.Test.YthncdjcmlpiebaaSS
import Derived.Test.YthncdjcmlpiebaaPurA
import Derived.Test.YthncdjcmlpiebaaW3A
import Derived.Test.YthncdjcmlpiebaaW7A
import Derived.Test.YthncdjcmlpiebaaBasA
import Derived.Test.YthncdjcmlpiebaaW12A
namespace Go.Proofs.Ythncdjcmlpiebaa
open Go.RowKit
def edgesOf (N : Int) (X : List Int) : List (Nat × Nat) := if isGraph N X then edges (X.map Int.toNat) N.toNat else []
theorem edgesOf_no {N : Int} {X : List Int} (h : isGraph N X = false) : edgesOf N X = [] := by rw [edgesOf, h]; rfl
theorem edgesOf_ok {n : Nat} {Q : List Nat} (h : GOk n Q) : edgesOf n (ints Q) = edges Q n := by rw [edgesOf, if_pos h.is, nats_ints, Int.toNat_natCast]
theorem snoc_lenS {ps : List RowP} {p : RowP} : (ps ++ [p]).length = ps.length + 1 := by simp
/-- A row of two numbers in a new block. -/
theorem row2_own {w : World} {g base : Nat} (h : w.heap.size = g) (hb : base ≤ g) (x y : Int) : OwnI (w.alloc (.cells #[.int .i64 x, .int .i64 y] 3)) base (some ⟨g, 0, none⟩) 2 2 [x, y] := (OwnI.of_blk (L := [x, y]) (Blk.new_at h) rfl (by simp)).more hb
theorem new_apart {w : World} {base A n c : Nat} {B : Option Addr} {ps : List RowP} (h : OwnS w base B n c ps) (hA : w.heap.size ≤ A) : ∀ q ∈ ps, ∀ j, (rowV q).ownBlock = some j → some A ≠ some j := fun q hq j hj e => by
  have := ((h.rows q hq).block j hj).2
  injection e with e
  omega
set_option maxRecDepth 100000 in
set_option maxHeartbeats 2000000 in
theorem implEdgesOf_any (N : Int) (A : Option Addr) (n c : Nat) (X : List Int) (w : World) (hX : RI w A n X) (hn : n ≤ 9223372036854775807) :
    Calls Try.prog 80 #[.agg #[.int .i64 N, .slice A n c]] w (GivesS ((edgesOf N X).map row2) w) := by
  have hbk := (Blk.new w 26 #[.int .i64 N, .slice A n c]).alloc (.cells #[] 24)
  have hown0 := OwnS.made (w := w.alloc (.cells #[.int .i64 N, .slice A n c] 26)) (g := w.heap.size + 1) (base := w.heap.size + 1) (by simp) (by omega)
  have hyb := hbk.two
  rcases isGraph_cases N X with hg | ⟨k, Q, rfl, rfl, h⟩
  · have H1 := Lib.hid hg
    rw [edgesOf_no hg]
    clear hg
    go_enter Try.func80, Try.ntmps80
    go_wp2_with fail
    refine (implIsGraph_is (hX.up (by go_grown)) hn H1.out).mono ?_
    rintro e w1 ⟨rfl, hb1⟩
    have hU1 : Up w w1 := Up.then_ (by go_grown) hb1
    go_wp2
    go_ret
    exact ⟨_, _, [], rfl, rfl, (hown0.up hb1).more (by omega), hU1⟩
  · obtain rfl : n = k := by rw [← hX.1, ints_len, h.len]
    rw [edgesOf_ok h]
    have h7 := h.le
    have h1 := h.pos
    have Hel := Lib.hid fun v x => (Nat.le_refl _ : (edgV Q v x).length ≤ (edgV Q v x).length)
    have HlV := Lib.hid fun v x => edgV_len Q v x
    have HlK := Lib.hid fun k => edgK_len Q n k
    have Hb7 := Lib.hid fun v => h.nb7 v
    obtain ⟨R, hR⟩ : ∃ R, R = edges Q n := ⟨_, rfl⟩
    rw [← hR]
    have HR := Lib.hid (show edgK Q n n = R from hR.symm)
    clear hR Hel
    go_enter Try.func80, Try.ntmps80
    have hXw := Lib.hid hX
    go_wp2_with fail
    refine (implIsGraph_is (hX.up (by go_grown)) hn h.is).mono ?_
    rintro e w1 ⟨rfl, hb1⟩
    have hU1 : Up w w1 := Up.then_ (by go_grown) hb1
    replace hX := hX.up hU1
    have hown1 := hown0.up hb1
    have hbk1 := hbk.up hb1
    have hyb1 := hbk1.two
    have hsz1 : w.heap.size + 1 < w1.heap.size := by have := hb1.size; simp at this; omega
    obtain ⟨a, rfl, _, _⟩ := hX.addr h.pos
    clear hyb hbk hown0 hb1
    go_wp2_with fail
    go_loopw [3, 15] (fun s i wr => ∃ (v : Nat) (A' : Option Addr) (c' : Nat) (ps : List RowP), v ≤ n ∧ i = .int .i64 v ∧ s = .slice A' ps.length c' ∧ OwnS wr (w.heap.size + 1) A' ps.length c' ps ∧ Hid (ps.map Prod.snd = (edgK Q n v).map row2) ∧ Below (w.heap.size + 1) w1 wr) (fun _ i _ => n - (intOf i).toNat)
    case atStart => exact ⟨0, _, _, [], Nat.zero_le _, rfl, rfl, hown1, rfl, Below.refl _ _⟩
    case round =>
      clear hown1
      obtain ⟨v, A', c', ps, hv, rfl, rfl, hown, hps, hb⟩ := hrel
      obtain ⟨wo, rfl⟩ : ∃ wo : World, wo = wr := ⟨_, rfl⟩
      have hUo : Up w wo := hU1.trans (hb.mono (by omega))
      have hlK := HlK.out v
      have hpl : ps.length = (edgK Q n v).length := by have := congrArg List.length hps.out; simpa using this
      by_cases hvn : v < n
      · have hXo := hXw.out.up hUo
        have hcv := hXo.nbs hvn
        have hyo := (hbk1.below hb (by omega)).two
        have hb7 := Hb7.out v
        obtain ⟨r, hr⟩ : ∃ r, r = nb Q v := ⟨_, rfl⟩
        rw [← hr] at hcv hb7
        have Hr := Lib.hid hr
        clear hr
        go_wp2_with fail
        go_loopw [3, 6] (fun s i wr => ∃ (x : Nat) (A' : Option Addr) (c' : Nat) (ps : List RowP), v < x ∧ x ≤ n ∧ i = .int .i64 x ∧ s = .slice A' ps.length c' ∧ OwnS wr (w.heap.size + 1) A' ps.length c' ps ∧ Hid (ps.map Prod.snd = (edgK Q n v ++ edgV Q v x).map row2) ∧ Below (w.heap.size + 1) w1 wr) (fun _ i _ => n - (intOf i).toNat)
        case atStart => exact ⟨v + 1, A', c', ps, by omega, by omega, by go_num, rfl, hown, by rw [edgV_low Q v (v + 1) (by omega), List.append_nil]; exact hps.out, hb⟩
        case round =>
          clear hown hps hpl
          obtain ⟨x, A2, c2, qs, hvx, hx, rfl, rfl, hown, hqs, hb2⟩ := hrel
          obtain ⟨wi, rfl⟩ : ∃ wi : World, wi = wr := ⟨_, rfl⟩
          have hyi := (hbk1.below hb2 (by omega)).two
          by_cases hxn : x < n
          · have hql : qs.length ≤ 49 + 7 := by
              have h1 := congrArg List.length hqs.out
              have h2 := HlK.out v
              have h3 := HlV.out v x
              have h4 : v * n ≤ 7 * 7 := Nat.mul_le_mul (by omega) h7
              simp at h1
              omega
            rcases Bool.eq_false_or_eq_true (edge Q v x) with e1 | e1
            · have H1 := Lib.hid (show r.testBit x = true by rw [Hr.out]; exact e1)
              have HN := Lib.hid (show (qs.map Prod.snd) ++ [[(v : Int), (x : Int)]] = (edgK Q n v ++ edgV Q v (x + 1)).map row2 by
                rw [hqs.out, edgV_yes hvx e1]; simp [row2])
              clear e1
              have hrow := (row2_own (w := wi) (g := wi.heap.size) (base := w.heap.size + 1) rfl (by have := hb2.size; omega) (v : Int) (x : Int)).alloc (.cells #[.slice (some ⟨wi.heap.size, 0, none⟩) 2 2] 24)
              have hcell := cell_lit (w := wi.alloc (.cells #[.int .i64 (v : Int), .int .i64 (x : Int)] 3)) (g := wi.heap.size + 1) (e := 24) (y := .slice (some ⟨wi.heap.size, 0, none⟩) 2 2) (by simp)
              have hap := new_apart hown (Nat.le_refl _)
              have hsz2 := hb2.size
              go_wp2_with (first | (go_at_call 52; refine (has_eq (by omega) (by omega) H1.out).mono ?_; rintro e w' ⟨rfl, rfl⟩) | (at_builtin; refine wpList_pushS rfl (.tmp 31) (.tmp 35) rfl ((some ⟨wi.heap.size, 0, none⟩, 2), [(v : Int), (x : Int)]) rfl ((hown.alloc _).alloc _) ⟨wi.heap.size + 1, 0, none⟩ rfl hcell hrow (fun q hq j hj e => hap q hq j hj e) (by omega) (by simp; omega) ?_; intro A7 c7 w7 hown7 hg7 hb7))
              go_roundw
              case rel =>
                exact ⟨x + 1, A7, c7, qs ++ [((some ⟨wi.heap.size, 0, none⟩, 2), [(v : Int), (x : Int)])], by omega, by omega, by go_num, by rw [snoc_lenS], by rw [snoc_lenS]; exact hown7, by rw [List.map_append]; exact HN.out, ((hb2.alloc (by omega) _).alloc (by simp; omega) _).trans hb7⟩
              case measure => simp [intOf]; omega
            · have H1 := Lib.hid (show r.testBit x = false by rw [Hr.out]; exact e1)
              have HN := Lib.hid (show qs.map Prod.snd = (edgK Q n v ++ edgV Q v (x + 1)).map row2 by rw [hqs.out, edgV_no e1])
              clear e1
              go_wp2_with (go_at_call 52; refine (has_eq (by omega) (by omega) H1.out).mono ?_; rintro e w' ⟨rfl, rfl⟩)
              go_roundw
              case rel => exact ⟨x + 1, A2, c2, qs, by omega, by omega, by go_num, rfl, hown, HN.out, hb2⟩
              case measure => simp [intOf]; omega
          · obtain rfl : x = n := by omega
            go_wp2
            go_roundw
            case rel => exact ⟨v + 1, A2, c2, qs, by omega, by go_num, rfl, hown, hqs.out, hb2⟩
            case measure => simp [intOf]; omega
      · obtain rfl : v = n := by omega
        have HP := Lib.hid (show ps.map Prod.snd = R.map row2 by rw [hps.out, HR.out])
        go_wp2
        go_ret
        exact ⟨A', c', ps, HP.out, rfl, hown.more (by omega), hUo⟩
end Go.Proofs.Ythncdjcmlpiebaa
