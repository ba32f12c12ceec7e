/- Walks of chapter 13: the reference's RemoveEdge. -/
import Derived.Test.YtlcmfangecbdgaaW13o
namespace Go.Proofs.Ytlcmfangecbdgaa
open Go.RowKit
set_option maxRecDepth 100000 in
set_option maxHeartbeats 2000000 in
theorem removeEdge_ok (ad : Addr) (n c v x : Nat) (Q : List Nat) (w : World) (hX : RI w (some ad) n (ints Q)) (h : GOk n Q) (hv : v < n) (hx : x < n) (hne : v ≠ x) :
    Calls Try.prog 88 #[.agg #[.int .i64 n, .slice (some ad) n c], .int .i64 v, .int .i64 x] w (GivesGB n (ints (remE Q (v, x))) (edge Q v x) w) := by
  have hn7 := h.le
  have hl := h.len
  go_enter Try.func88, Try.ntmps88
  go_wp2_with fail
  refine (l2Copy_nat ad n c Q _ (hX.up (by go_grown)) hl (by omega) (by omega)).mono ?_
  rintro e w1 ⟨g, d, rfl, hown, hb1, hg1⟩
  have hU1 : Up w w1 := Up.then_ (by go_grown) hb1
  replace hX := hX.up hU1
  replace hown := hown.more (base' := w.heap.size) (by simp; omega)
  have hblk := ((Blk.new w 27 #[.int .i64 n, .slice (some ad) n c]).alloc (.cells #[.int .i64 0, .slice none 0 0] 27)).up hb1
  have hb6 := (Blk.new_at (w := w.alloc (.cells #[.int .i64 n, .slice (some ad) n c] 27)) (t := 27) (cs := #[.int .i64 0, .slice none 0 0]) (g := w.heap.size + 1) (by simp)).up hb1
  have yhblk := hblk.two
  have lhblk := hblk.lt
  have yhb6 := hb6.two
  have lhb6 := hb6.lt
  have hb8 := Blk.new w1 27 #[.int .i64 n, .slice (some ⟨g, 0, none⟩) n d]
  go_wp2_with fail
  refine (l2Pair_yes (hX.up (by go_grown)) h hv hx hne).mono ?_
  rintro e w2 ⟨rfl, hb2⟩
  have hU2 : Up w1 w2 := Up.then_ (by go_grown) hb2
  replace hX := hX.up hU2
  replace hblk := hblk.up hU2
  replace hb6 := hb6.up hU2
  replace hown := hown.up hU2
  replace yhblk := hblk.two
  replace lhblk := hblk.lt
  replace yhb6 := hb6.two
  replace lhb6 := hb6.lt
  replace hb8 := hb8.up hb2
  replace yhblk := hblk.two
  replace lhblk := hblk.lt
  replace yhb6 := hb6.two
  replace lhb6 := hb6.lt
  have yhb8 := hb8.two
  have lhb8 := hb8.lt
  rcases Bool.eq_false_or_eq_true (edge Q v x) with e1 | e1
  · have H1 := Lib.hid e1
    have HR := Lib.hid (remE_yes e1)
    have hs1 := sub_bit (show (nb Q v).testBit x = true from e1)
    have hs2 := sub_bit (show (nb Q x).testBit v = true by rw [h.sym]; exact e1)
    have hD := Lib.hid (show (Q.set v (dif (nb Q v) (2 ^ x))).set x (dif (nb Q x) (2 ^ v)) = delE Q v x from rfl)
    clear e1
    go_wp2_with fail
    refine (l2Edge_is (hX.up (by go_grown)) h hv (by omega) H1.out).mono ?_
    rintro e w3 ⟨rfl, hb3⟩
    have hU3 : Up w2 w3 := Up.then_ (by go_grown) hb3
    replace hX := hX.up hU3
    replace hblk := hblk.up hU3
    replace hb6 := hb6.up hU3
    replace hown := hown.up hU3
    replace hb8 := hb8.up hU3
    replace yhblk := hblk.two
    replace lhblk := hblk.lt
    replace yhb6 := hb6.two
    replace lhb6 := hb6.lt
    replace yhb8 := hb8.two
    replace lhb8 := hb8.lt
    have hg1' : w.heap.size ≤ g := by simp at hg1; omega
    have hcv := hown.nat hv
    have hfv := hown.frz v
    have hv7 := h.nb7 v
    have hx7 := h.nb7 x
    have hpx := p2_le (k := x) (by omega)
    have hpv := p2_le (k := v) (by omega)
    have hv1 : IntKind.i64.wrap ((2 : Int) ^ x) = ((p2 x : Nat) : Int) := by rw [IntWalk.i64_left]; exact shl_p2 (by omega)
    have hv2 : IntKind.i64.wrap ((2 : Int) ^ v) = ((p2 v : Nat) : Int) := by rw [IntWalk.i64_left]; exact shl_p2 (by omega)
    obtain ⟨y1, hy1⟩ : ∃ y1, y1 = dif (nb Q v) (2 ^ x) := ⟨_, rfl⟩
    obtain ⟨y2, hy2⟩ : ∃ y2, y2 = dif (nb Q x) (2 ^ v) := ⟨_, rfl⟩
    have hv3 : IntKind.i64.wrap ((nb Q v : Int) - ((p2 x : Nat) : Int)) = (y1 : Int) := by
      rw [IntWalk.i64_in _ (by omega), hy1, ← hs1.2]
      exact (Int.ofNat_sub hs1.1).symm
    have hv4 : IntKind.i64.wrap ((nb Q x : Int) - ((p2 v : Nat) : Int)) = (y2 : Int) := by
      rw [IntWalk.i64_in _ (by omega), hy2, ← hs2.2]
      exact (Int.ofNat_sub hs2.1).symm
    rw [← hy1, ← hy2] at hD
    have hne2 := Lib.hid (nb_set' (o := Q) (x := v) (y := y1) (j := x) (by rw [hl]; exact hv))
    rw [if_neg (fun k => hne k.symm)] at hne2
    obtain ⟨rv, hrv⟩ : ∃ rv, rv = nb Q v := ⟨_, rfl⟩
    obtain ⟨rx, hrx⟩ : ∃ rx, rx = nb Q x := ⟨_, rfl⟩
    rw [← hrv] at hcv hv3
    rw [← hrx] at hv4 hne2
    clear hy1 hy2 hrv hrx hs1 hs2 hv7 hx7
    go_wp2_with fail
    go_still_tail 12, (by kernel_rfl)
    change wpList _ _ _ _ _ w3.drew
    have hcv2 : w3.drew.cell? ⟨g, v, none⟩ = some (.int .i64 (rv : Nat)) := hcv
    have hfv2 : w3.drew.frozen? ⟨g, v, none⟩ = false := hfv
    go_wp2
    obtain ⟨w4, hw4⟩ : ∃ w4, w4 = (w3.setCell ⟨g, v, none⟩ (.int .i64 (y1 : Int))).drew := ⟨_, rfl⟩
    obtain ⟨Q1, hQ1⟩ : ∃ Q1, Q1 = Q.set v y1 := ⟨_, rfl⟩
    have hown4 : OwnI w4 w.heap.size (some ⟨g, 0, none⟩) n d (ints Q1) := by rw [hw4, hQ1]; exact (hown.putNat v y1).drew
    have hblk4 : Blk w4 w.heap.size 27 #[.int .i64 n, .slice (some ad) n c] := by rw [hw4]; exact (hblk.far (fun e => own_blk_ne (e := 3) hown hblk (by decide) (by simp [Value.ownBlock, e])) _).drew
    have hb64 : Blk w4 (w.heap.size + 1) 27 #[.int .i64 0, .slice none 0 0] := by rw [hw4]; exact (hb6.far (fun e => own_blk_ne (e := 3) hown hb6 (by decide) (by simp [Value.ownBlock, e])) _).drew
    have hb84 : Blk w4 w1.heap.size 27 #[.int .i64 n, .slice (some ⟨g, 0, none⟩) n d] := by rw [hw4]; exact (hb8.far (fun e => own_blk_ne (e := 3) hown hb8 (by decide) (by simp [Value.ownBlock, e])) _).drew
    have hbel4 : Below w.heap.size w w4 := by rw [hw4]; exact ((Up.then_ (Up.then_ hU1 hU2) hU3).setCell hg1' _).drew
    rw [← hw4]
    clear hw4
    clear yhblk lhblk yhb6 lhb6 yhb8 lhb8 hcv hfv hcv2 hfv2
    have yhb8 := hb84.two
    have hcx := hown4.nat hx
    have hfx := hown4.frz x
    rw [hQ1, hne2.out] at hcx
    have hQ2 : Q1.set x y2 = delE Q v x := by rw [hQ1]; exact hD.out
    clear hQ1
    have hown5 := hown4.putNat x y2
    rw [hQ2] at hown5
    have hb65 := hb64.far (p := ⟨g, x, none⟩) (fun e => own_blk_ne (e := 3) hown4 hb64 (by decide) (by simp [Value.ownBlock, e])) (.int .i64 (y2 : Int))
    have hb85 := hb84.far (p := ⟨g, x, none⟩) (fun e => own_blk_ne (e := 3) hown4 hb84 (by decide) (by simp [Value.ownBlock, e])) (.int .i64 (y2 : Int))
    have hbel5 := hbel4.setCell (p := ⟨g, x, none⟩) hg1' (.int .i64 (y2 : Int))
    have y65 := hb65.two
    have f650 := hb65.frozen 0
    have f651 := hb65.frozen 1
    have y85 := hb85.two
    have hfin := ((hb65.set_ 0 (.int .i64 n)).set_ 1 (.slice (some ⟨g, 0, none⟩) n d)).two
    have hof := (hown5.other_store (i := 0) hb65 (by decide) (.int .i64 n)).other_store (i := 1) (hb65.set_ 0 (.int .i64 n)) (by decide) (.slice (some ⟨g, 0, none⟩) n d)
    have hbf := (hbel5.setCell (p := ⟨w.heap.size + 1, 0, none⟩) (by simp) (.int .i64 n)).setCell (p := ⟨w.heap.size + 1, 1, none⟩) (by simp) (.slice (some ⟨g, 0, none⟩) n d)
    go_wp2_with fail
    go_still_tail 12, (by kernel_rfl)
    change wpList _ _ _ _ _ w4.drew
    have hcx2 : w4.drew.cell? ⟨g, x, none⟩ = some (.int .i64 (rx : Nat)) := hcx
    have hfx2 : w4.drew.frozen? ⟨g, x, none⟩ = false := hfx
    go_wp2
    generalize ((w4.setCell ⟨g, x, none⟩ (.int .i64 (y2 : Int))).setCell ⟨w.heap.size + 1, 0, none⟩ (.int .i64 n)).setCell ⟨w.heap.size + 1, 1, none⟩ (.slice (some ⟨g, 0, none⟩) n d) = Wf at hfin hof hbf ⊢
    refine bodyPost_ret (v := .tuple #[.agg #[.int .i64 n, .slice (some ⟨g, 0, none⟩) n d], .bool true]) ?_ rfl ?_
    · simp [results, Try.results88, go_sem, hfin]
    rw [H1.out, HR.out]
    exact givesGB_of (by rw [delE_len, hl]) hof.drew (Nat.le_refl _) hbf.drew
  · have HE := Lib.hid (remE_no e1)
    have H1 := Lib.hid e1
    clear e1
    go_wp2_with fail
    refine (l2Edge_is (hX.up (by go_grown)) h hv (by omega) H1.out).mono ?_
    rintro e w3 ⟨rfl, hb3⟩
    have hU3 : Up w2 w3 := Up.then_ (by go_grown) hb3
    replace hX := hX.up hU3
    replace hblk := hblk.up hU3
    replace hb6 := hb6.up hU3
    replace hown := hown.up hU3
    replace hb8 := hb8.up hU3
    replace yhblk := hblk.two
    replace lhblk := hblk.lt
    replace yhb6 := hb6.two
    replace lhb6 := hb6.lt
    replace yhb8 := hb8.two
    replace lhb8 := hb8.lt
    have hfz := hb6.frozen
    have hf0 := hfz 0
    have hf1 := hfz 1
    clear hfz
    have hfin := ((hb6.set_ 0 (.int .i64 n)).set_ 1 (.slice (some ⟨g, 0, none⟩) n d)).two
    have hof := (hown.other_store (i := 0) hb6 (by decide) (.int .i64 n)).other_store (i := 1) (hb6.set_ 0 (.int .i64 n)) (by decide) (.slice (some ⟨g, 0, none⟩) n d)
    have hbf : Below w.heap.size w ((w3.setCell ⟨w.heap.size + 1, 0, none⟩ (.int .i64 n)).setCell ⟨w.heap.size + 1, 1, none⟩ (.slice (some ⟨g, 0, none⟩) n d)) := ((Up.then_ (Up.then_ hU1 hU2) hU3).setCell (by simp) _).setCell (by simp) _
    go_wp2
    generalize (w3.setCell ⟨w.heap.size + 1, 0, none⟩ (.int .i64 n)).setCell ⟨w.heap.size + 1, 1, none⟩ (.slice (some ⟨g, 0, none⟩) n d) = Wf at hfin hof hbf ⊢
    refine bodyPost_ret (v := .tuple #[.agg #[.int .i64 n, .slice (some ⟨g, 0, none⟩) n d], .bool false]) ?_ rfl ?_
    · simp [results, Try.results88, go_sem, hfin]
    rw [H1.out, HE.out]
    exact givesGB_of hl hof (Nat.le_refl _) hbf
end Go.Proofs.Ytlcmfangecbdgaa
