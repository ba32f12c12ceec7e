/- Walks of chapter 2: a copy of a graph, an edge more. Draws: the cursor over the law's bytes; what a call leaves alone that moves the cursor. Draws: an edge that is none. Draws: the cursor's walks. Helpers of the great laws: the same numbers in two slices; bytes that are many. An argument that is a slice of bytes. -/
import Derived.Test.YthncdjcmlpiebaaGreatDoorQc01
import Derived.Test.YthncdjcmlpiebaaGreatDoorQc02
import Derived.Test.YthncdjcmlpiebaaGreatDoorQc03
import Derived.Test.YthncdjcmlpiebaaGreatDoorQc04
namespace Go.Proofs.YthncdjcmlpiebaaGreatDoor
open Go.RowKit
set_option maxRecDepth 100000 in
theorem Below.alloc_drew_ (W : World) (o : Obj) {w : World} (h : Below W.heap.size (W.alloc o).drew w) : Below W.heap.size W w := ((Below.refl W.heap.size W).alloc (Nat.le_refl _) o).drew.trans h
/-- A graph of the call's own. -/
def GivesG (N : Int) (xs : List Int) (w : World) (e : Ending) (w' : World) : Prop :=
  ∃ A c, e = .returned (.agg #[.int .i64 N, .slice A xs.length c]) ∧ OwnI w' w.heap.size A xs.length c xs ∧ Below w.heap.size w w'
set_option maxRecDepth 100000 in
set_option maxHeartbeats 1000000 in
theorem l2Copy_any (N : Int) (ad : Addr) (n c : Nat) (X : List Int) (w : World) (hX : RI w (some ad) n X) (hn : n ≤ 1048576) :
    Calls Tryz.prog 110 #[.agg #[.int .i64 N, .slice (some ad) n c]] w (GivesG N X w) := by
  have hl := Lib.hid hX.1
  have hX2 : RI ((w.alloc (.cells #[.int .i64 N, .slice (some ad) n c] 29)).alloc (.cells #[.int .i64 0, .slice none 0 0] 29)) (some ad) n X := hX.up (by go_grown)
  have hb0 := (Blk.new w 29 #[.int .i64 N, .slice (some ad) n c]).alloc (.cells #[.int .i64 0, .slice none 0 0] 29)
  have hb2 := Blk.new_at (w := w.alloc (.cells #[.int .i64 N, .slice (some ad) n c] 29)) (t := 29) (cs := #[.int .i64 0, .slice none 0 0]) (g := w.heap.size + 1) (by simp)
  have hbel : Below w.heap.size w ((w.alloc (.cells #[.int .i64 N, .slice (some ad) n c] 29)).alloc (.cells #[.int .i64 0, .slice none 0 0] 29)) := by go_grown
  go_enter Tryz.func110, Tryz.ntmps110
  go_wp2_with fail
  obtain ⟨W0, hW0⟩ : ∃ W0, W0 = (w.alloc (.cells #[.int .i64 N, .slice (some ad) n c] 29)).alloc (.cells #[.int .i64 0, .slice none 0 0] 29) := ⟨_, rfl⟩
  rw [← hW0] at hX2 hb0 hb2 hbel
  rw [← hW0]
  clear hW0
  have hl0 := hb0.lt
  have hl2 := hb2.lt
  have hown0 := OwnI.made (base := W0.heap.size) W0.drew (Nat.le_refl _)
  go_region_held3 (fun w' => w'.cell? ⟨w.heap.size, 0, none⟩ = some (.int .i64 N) ∧ w'.cell? ⟨w.heap.size, 1, none⟩ = some (.slice (some ad) n c))
    (first | exact (hb0.drew.alloc _).two | exact hb0.drew.two | exact hc5.two | exact ((hc5.far (by simp) _).far (by simp) _).two)
    (first | (refine step_append_new rfl (.tmp 5) (.tmp 7) rfl rfl hown0 rfl (hX2.drew.alloc _) hn (by simp) ?_; intro A' c' w5 hown5 hb5 hg5; have hc5 := (hb0.drew.alloc (.cells #[] 3)).below hb5 hl0; have hd5 := (hb2.drew.alloc (.cells #[] 3)).below hb5 hl2; have e5 := hd5.two; have f5 := hd5.frozen 0; have g5 := hd5.frozen 1))
  have hfin := (hd5.set_ 0 (.int .i64 N)).set_ 1 (.slice A' n c')
  have hyf := hfin.two
  have hof := (hown5.other_store (i := 0) hd5 (by decide) (.int .i64 N)).other_store (i := 1) (hd5.set_ 0 (.int .i64 N)) (by decide) (.slice A' n c')
  have hbf : Below w.heap.size w ((w5.setCell ⟨w.heap.size + 1, 0, none⟩ (.int .i64 N)).setCell ⟨w.heap.size + 1, 1, none⟩ (.slice A' n c')) := ((hbel.trans ((Below.alloc_drew_ W0 _ hb5).mono hbel.size)).setCell (by simp) _).setCell (by simp) _
  go_wp2
  generalize (w5.setCell ⟨w.heap.size + 1, 0, none⟩ (.int .i64 N)).setCell ⟨w.heap.size + 1, 1, none⟩ (.slice A' n c') = Wf at hfin hyf hof hbf ⊢
  refine bodyPost_ret (v := .agg #[.int .i64 N, .slice A' n c']) ?_ rfl ?_
  · simp [results, Tryz.results110, go_sem, hyf]
  have e := hl.out
  subst e
  exact ⟨A', c', rfl, hof.more hbel.size, hbf⟩
set_option maxRecDepth 100000 in
theorem l2Copy_nat (ad : Addr) (n c : Nat) (Q : List Nat) (w : World) (hX : RI w (some ad) n (ints Q)) (hl : Q.length = n) (h0 : 0 < n) (hn : n ≤ 1048576) :
    Calls Tryz.prog 110 #[.agg #[.int .i64 n, .slice (some ad) n c]] w fun e w' => ∃ g d, e = .returned (.agg #[.int .i64 n, .slice (some ⟨g, 0, none⟩) n d]) ∧ OwnI w' w.heap.size (some ⟨g, 0, none⟩) n d (ints Q) ∧ Below w.heap.size w w' ∧ w.heap.size ≤ g := by
  refine (l2Copy_any n ad n c (ints Q) w hX hn).mono ?_
  rintro e w' ⟨B, d, rfl, hown, hb⟩
  have e : (ints Q).length = n := by rw [ints_len, hl]
  rw [e] at hown ⊢
  obtain ⟨g, rfl⟩ := hown.form h0
  exact ⟨g, d, rfl, hown, hb, (hown.block g rfl).1⟩
set_option maxRecDepth 100000 in
set_option maxHeartbeats 1000000 in
theorem l2Pair_yes {A : Option Addr} {n c v x : Nat} {Q : List Nat} {w : World} (hX : RI w A n (ints Q)) (h : GOk n Q) (hv : v < n) (hx : x < n) (hne : v ≠ x) :
    Calls Tryz.prog 111 #[.agg #[.int .i64 n, .slice A n c], .int .i64 v, .int .i64 x] w fun e w' => e = .returned (.bool true) ∧ Below w.heap.size w w' := by
  have hn7 := h.le
  have hne' : ((v : Int) != (x : Int)) = true := by rw [bne_iff_ne]; omega
  clear hne
  go_enter Tryz.func111, Tryz.ntmps111
  go_wp2_with fail
  refine (specIsGraph_is (hX.up (by go_grown)) (by omega) h.is).mono ?_
  rintro e w1 ⟨rfl, hb1⟩
  have hU1 : Up w w1 := Up.then_ (by go_grown) hb1
  have hblk := (Blk.new w 29 #[.int .i64 n, .slice A n c]).up hb1
  have hyb := hblk.two
  go_wp2
  go_ret
  exact ⟨rfl, hU1⟩
set_option maxRecDepth 100000 in
theorem add_0 (g k : Nat) : (⟨g, 0, none⟩ : Addr).add k = ⟨g, k, none⟩ := by unfold Addr.add; split <;> simp_all
set_option maxRecDepth 100000 in
theorem OwnI.nat {w : World} {base g n c k : Nat} {Q : List Nat} (h : OwnI w base (some ⟨g, 0, none⟩) n c (ints Q)) (hk : k < n) : w.cell? ⟨g, k, none⟩ = some (.int .i64 (nb Q k)) := by
  obtain ⟨ad, e, hc⟩ := h.ri.nb_at hk
  injection e with e
  subst e
  rw [add_0] at hc
  exact hc
set_option maxRecDepth 100000 in
theorem givesGB_of {w w' : World} {N : Int} {A : Option Addr} {n d base : Nat} {Q : List Nat} {b : Bool} (hl : Q.length = n) (hown : OwnI w' base A n d (ints Q)) (hbase : w.heap.size ≤ base) (hb : Below w.heap.size w w') :
    GivesGB N (ints Q) b w (.returned (.tuple #[.agg #[.int .i64 N, .slice A n d], .bool b])) w' := by
  subst hl
  have e := ints_len Q
  refine ⟨A, d, by rw [e], (hown.cast e.symm rfl).more hbase, hb⟩
set_option maxRecDepth 100000 in
theorem OwnI.putNat {w : World} {base g n c : Nat} {Q : List Nat} (h : OwnI w base (some ⟨g, 0, none⟩) n c (ints Q)) (k y : Nat) : OwnI (w.setCell ⟨g, k, none⟩ (.int .i64 (y : Int))) base (some ⟨g, 0, none⟩) n c (ints (Q.set k y)) := by
  have := (h.put k (y : Int)).1
  have e : (ints Q).set k (y : Int) = ints (Q.set k y) := by simp [ints]
  rw [e] at this
  exact this
set_option maxRecDepth 100000 in
theorem OwnI.frz {w : World} {base g n c : Nat} {xs : List Int} (h : OwnI w base (some ⟨g, 0, none⟩) n c xs) (k : Nat) : w.frozen? ⟨g, k, none⟩ = false := World.ownsRow.frozenAt h k
set_option maxRecDepth 100000 in
set_option maxHeartbeats 2000000 in
theorem addEdge_ok (ad : Addr) (n c v x : Nat) (Q : List Nat) (w : World) (hX : RI w (some ad) n (ints Q)) (h : GOk n Q) (hv : v < n) (hx : x < n) (hne : v ≠ x) :
    Calls Tryz.prog 62 #[.agg #[.int .i64 n, .slice (some ad) n c], .int .i64 v, .int .i64 x] w (GivesGB n (ints (addE Q v x)) (!(nb Q v).testBit x) w) := by
  have hn7 := h.le
  have hl := h.len
  go_enter Tryz.func62, Tryz.ntmps62
  go_wp2_with fail
  refine (l2Copy_nat ad n c Q _ (hX.up (by go_grown)) hl (by omega) (by omega)).mono ?_
  rintro e w1 ⟨g, d, rfl, hown, hb1, hg1⟩
  have hU1 : Up w w1 := Up.then_ (by go_grown) hb1
  replace hX := hX.up hU1
  replace hown := hown.more (base' := w.heap.size) (by simp; omega)
  have hblk := ((Blk.new w 29 #[.int .i64 n, .slice (some ad) n c]).alloc (.cells #[.int .i64 0, .slice none 0 0] 29)).up hb1
  have hb6 := (Blk.new_at (w := w.alloc (.cells #[.int .i64 n, .slice (some ad) n c] 29)) (t := 29) (cs := #[.int .i64 0, .slice none 0 0]) (g := w.heap.size + 1) (by simp)).up hb1
  have yhblk := hblk.two
  have lhblk := hblk.lt
  have yhb6 := hb6.two
  have lhb6 := hb6.lt
  have hb8 := Blk.new w1 29 #[.int .i64 n, .slice (some ⟨g, 0, none⟩) n d]
  go_wp2_with fail
  refine (l2Pair_yes (hX.up (by go_grown)) h hv hx hne).mono ?_
  rintro e w2 ⟨rfl, hb2⟩
  have hU2 : Up w1 w2 := Up.then_ (by go_grown) hb2
  replace hX := hX.up hU2
  replace hblk := hblk.up hU2
  replace hb6 := hb6.up hU2
  replace hown := hown.up hU2
  replace yhblk := hblk.two
  replace lhblk := hblk.lt
  replace yhb6 := hb6.two
  replace lhb6 := hb6.lt
  replace hb8 := hb8.up hb2
  replace yhblk := hblk.two
  replace lhblk := hblk.lt
  replace yhb6 := hb6.two
  replace lhb6 := hb6.lt
  have yhb8 := hb8.two
  have lhb8 := hb8.lt
  have hbit := h.sym v x
  rcases Bool.eq_false_or_eq_true ((nb Q v).testBit x) with e1 | e1
  · have HE := Lib.hid (addE_there h e1)
    have H1 := Lib.hid e1
    clear hbit e1
    go_wp2_with fail
    refine (l2Edge_is (hX.up (by go_grown)) h hv (by omega) H1.out).mono ?_
    rintro e w3 ⟨rfl, hb3⟩
    have hU3 : Up w2 w3 := Up.then_ (by go_grown) hb3
    replace hX := hX.up hU3
    replace hblk := hblk.up hU3
    replace hb6 := hb6.up hU3
    replace hown := hown.up hU3
    replace hb8 := hb8.up hU3
    replace yhblk := hblk.two
    replace lhblk := hblk.lt
    replace yhb6 := hb6.two
    replace lhb6 := hb6.lt
    replace yhb8 := hb8.two
    replace lhb8 := hb8.lt
    have hfz := hb6.frozen
    have hf0 := hfz 0
    have hf1 := hfz 1
    clear hfz
    have hfin := ((hb6.set_ 0 (.int .i64 n)).set_ 1 (.slice (some ⟨g, 0, none⟩) n d)).two
    have hof := (hown.other_store (i := 0) hb6 (by decide) (.int .i64 n)).other_store (i := 1) (hb6.set_ 0 (.int .i64 n)) (by decide) (.slice (some ⟨g, 0, none⟩) n d)
    have hbf : Below w.heap.size w ((w3.setCell ⟨w.heap.size + 1, 0, none⟩ (.int .i64 n)).setCell ⟨w.heap.size + 1, 1, none⟩ (.slice (some ⟨g, 0, none⟩) n d)) := ((Up.then_ (Up.then_ hU1 hU2) hU3).setCell (by simp) _).setCell (by simp) _
    go_wp2
    generalize (w3.setCell ⟨w.heap.size + 1, 0, none⟩ (.int .i64 n)).setCell ⟨w.heap.size + 1, 1, none⟩ (.slice (some ⟨g, 0, none⟩) n d) = Wf at hfin hof hbf ⊢
    refine bodyPost_ret (v := .tuple #[.agg #[.int .i64 n, .slice (some ⟨g, 0, none⟩) n d], .bool false]) ?_ rfl ?_
    · simp [results, Tryz.results62, go_sem, hfin]
    rw [H1.out, HE.out]
    exact givesGB_of hl hof (Nat.le_refl _) hbf
  · have H1 := Lib.hid e1
    have hs1 := add_bit e1
    have hs2 := add_bit (show (nb Q x).testBit v = false by rw [← hbit]; exact e1)
    clear hbit e1
    go_wp2_with fail
    refine (l2Edge_is (hX.up (by go_grown)) h hv (by omega) H1.out).mono ?_
    rintro e w3 ⟨rfl, hb3⟩
    have hU3 : Up w2 w3 := Up.then_ (by go_grown) hb3
    replace hX := hX.up hU3
    replace hblk := hblk.up hU3
    replace hb6 := hb6.up hU3
    replace hown := hown.up hU3
    replace hb8 := hb8.up hU3
    replace yhblk := hblk.two
    replace lhblk := hblk.lt
    replace yhb6 := hb6.two
    replace lhb6 := hb6.lt
    replace yhb8 := hb8.two
    replace lhb8 := hb8.lt
    have hg1' : w.heap.size ≤ g := by simp at hg1; omega
    have hcv := hown.nat hv
    have hfv := hown.frz v
    have hv7 := h.nb7 v
    have hx7 := h.nb7 x
    have hpx := p2_le (k := x) (by omega)
    have hpv := p2_le (k := v) (by omega)
    have hv1 : IntKind.i64.wrap ((2 : Int) ^ x) = ((p2 x : Nat) : Int) := by rw [IntWalk.i64_left]; exact shl_p2 (by omega)
    have hv2 : IntKind.i64.wrap ((2 : Int) ^ v) = ((p2 v : Nat) : Int) := by rw [IntWalk.i64_left]; exact shl_p2 (by omega)
    have hv3 : IntKind.i64.wrap ((nb Q v : Int) + ((p2 x : Nat) : Int)) = (nb Q v : Int) + ((p2 x : Nat) : Int) := IntWalk.i64_in _ (by omega)
    have hv4 : IntKind.i64.wrap ((nb Q x : Int) + ((p2 v : Nat) : Int)) = (nb Q x : Int) + ((p2 v : Nat) : Int) := IntWalk.i64_in _ (by omega)
    go_wp2_with fail
    go_still_tail 12, (by kernel_rfl)
    change wpList _ _ _ _ _ w3.drew
    have hcv2 : w3.drew.cell? ⟨g, v, none⟩ = some (.int .i64 (nb Q v)) := hcv
    have hfv2 : w3.drew.frozen? ⟨g, v, none⟩ = false := hfv
    go_wp2
    obtain ⟨w4, hw4⟩ : ∃ w4, w4 = (w3.setCell ⟨g, v, none⟩ (.int .i64 ((nb Q v : Int) + (p2 x : Int)))).drew := ⟨_, rfl⟩
    obtain ⟨Q1, hQ1⟩ : ∃ Q1, Q1 = Q.set v (nb Q v + 2 ^ x) := ⟨_, rfl⟩
    have hown4 : OwnI w4 w.heap.size (some ⟨g, 0, none⟩) n d (ints Q1) := by rw [hw4, hQ1]; exact (hown.putNat v (nb Q v + 2 ^ x)).drew
    have hblk4 : Blk w4 w.heap.size 29 #[.int .i64 n, .slice (some ad) n c] := by rw [hw4]; exact (hblk.far (fun e => own_blk_ne (e := 3) hown hblk (by decide) (by simp [Value.ownBlock, e])) _).drew
    have hb64 : Blk w4 (w.heap.size + 1) 29 #[.int .i64 0, .slice none 0 0] := by rw [hw4]; exact (hb6.far (fun e => own_blk_ne (e := 3) hown hb6 (by decide) (by simp [Value.ownBlock, e])) _).drew
    have hb84 : Blk w4 w1.heap.size 29 #[.int .i64 n, .slice (some ⟨g, 0, none⟩) n d] := by rw [hw4]; exact (hb8.far (fun e => own_blk_ne (e := 3) hown hb8 (by decide) (by simp [Value.ownBlock, e])) _).drew
    have hbel4 : Below w.heap.size w w4 := by rw [hw4]; exact ((Up.then_ (Up.then_ hU1 hU2) hU3).setCell hg1' _).drew
    rw [← hw4]
    clear hw4
    clear yhblk lhblk yhb6 lhb6 yhb8 lhb8 hcv hfv hcv2 hfv2
    have yhb8 := hb84.two
    have hcx := hown4.nat hx
    have hfx := hown4.frz x
    have hQx : nb Q1 x = nb Q x := by rw [hQ1, nb_set' (by omega), if_neg (fun e => hne e.symm)]
    have hQ2 : Q1.set x (nb Q x + 2 ^ v) = addE Q v x := by rw [hQ1, addE, hs1, hs2]
    rw [hQx] at hcx
    clear hQx hQ1
    have hown5 := hown4.putNat x (nb Q x + 2 ^ v)
    rw [hQ2] at hown5
    have hb65 := hb64.far (p := ⟨g, x, none⟩) (fun e => own_blk_ne (e := 3) hown4 hb64 (by decide) (by simp [Value.ownBlock, e])) (.int .i64 ((nb Q x + 2 ^ v : Nat) : Int))
    have hb85 := hb84.far (p := ⟨g, x, none⟩) (fun e => own_blk_ne (e := 3) hown4 hb84 (by decide) (by simp [Value.ownBlock, e])) (.int .i64 ((nb Q x + 2 ^ v : Nat) : Int))
    have hbel5 := hbel4.setCell (p := ⟨g, x, none⟩) hg1' (.int .i64 ((nb Q x + 2 ^ v : Nat) : Int))
    have hcast : ((nb Q x + 2 ^ v : Nat) : Int) = (nb Q x : Int) + (p2 v : Int) := rfl
    rw [hcast] at hown5 hb65 hb85 hbel5
    clear hcast
    have y65 := hb65.two
    have f650 := hb65.frozen 0
    have f651 := hb65.frozen 1
    have y85 := hb85.two
    have hfin := ((hb65.set_ 0 (.int .i64 n)).set_ 1 (.slice (some ⟨g, 0, none⟩) n d)).two
    have hof := (hown5.other_store (i := 0) hb65 (by decide) (.int .i64 n)).other_store (i := 1) (hb65.set_ 0 (.int .i64 n)) (by decide) (.slice (some ⟨g, 0, none⟩) n d)
    have hbf := (hbel5.setCell (p := ⟨w.heap.size + 1, 0, none⟩) (by simp) (.int .i64 n)).setCell (p := ⟨w.heap.size + 1, 1, none⟩) (by simp) (.slice (some ⟨g, 0, none⟩) n d)
    go_wp2_with fail
    go_still_tail 12, (by kernel_rfl)
    change wpList _ _ _ _ _ w4.drew
    have hcx2 : w4.drew.cell? ⟨g, x, none⟩ = some (.int .i64 (nb Q x)) := hcx
    have hfx2 : w4.drew.frozen? ⟨g, x, none⟩ = false := hfx
    go_wp2
    generalize ((w4.setCell ⟨g, x, none⟩ (.int .i64 ((nb Q x : Int) + (p2 v : Int)))).setCell ⟨w.heap.size + 1, 0, none⟩ (.int .i64 n)).setCell ⟨w.heap.size + 1, 1, none⟩ (.slice (some ⟨g, 0, none⟩) n d) = Wf at hfin hof hbf ⊢
    refine bodyPost_ret (v := .tuple #[.agg #[.int .i64 n, .slice (some ⟨g, 0, none⟩) n d], .bool true]) ?_ rfl ?_
    · simp [results, Tryz.results62, go_sem, hfin]
    rw [H1.out]
    exact givesGB_of (by rw [addE_len, hl]) hof.drew (Nat.le_refl _) hbf.drew
end Go.Proofs.YthncdjcmlpiebaaGreatDoor
namespace Go.Proofs.YthncdjcmlpiebaaGreatDoor
open Go.RowKit
/-- A slice that reads as bytes. -/
def RB (w : World) (B : Option Addr) (n : Nat) (bs : List Int) : Prop := bs.length = n ∧ (0 < n → ∃ ad, B = some ad ∧ ad.block < w.heap.size ∧ ∀ j, j < n → w.cell? (ad.add j) = some (.int .u8 (bs.getD j 0)) ∧ 0 ≤ bs.getD j 0 ∧ bs.getD j 0 ≤ 255)
set_option maxRecDepth 100000 in
theorem RB.keep {w w' : World} {B : Option Addr} {n : Nat} {bs : List Int} (h : RB w B n bs) (hs : w.heap.size ≤ w'.heap.size) (hk : ∀ p : Addr, p.block < w.heap.size → (∀ ad, B = some ad → p.block = ad.block) → w'.cell? p = w.cell? p) : RB w' B n bs :=
  ⟨h.1, fun h0 => by
    obtain ⟨ad, rfl, hl, hc⟩ := h.2 h0
    exact ⟨ad, rfl, by omega, fun j hj => ⟨by rw [hk _ (by rw [block_of_add]; exact hl) (fun a e => by injection e with e; subst e; rw [block_of_add]), (hc j hj).1], (hc j hj).2⟩⟩⟩
set_option maxRecDepth 100000 in
theorem RB.grown {w w' : World} {B : Option Addr} {n : Nat} {bs : List Int} {row : Option Nat} (h : RB w B n bs) (hg : w.grownBy w' row) (hr : ∀ ad, B = some ad → some ad.block ≠ row) : RB w' B n bs := by
  rcases Nat.eq_zero_or_pos n with h0 | h0
  · exact ⟨h.1, fun h1 => absurd h1 (by omega)⟩
  · obtain ⟨ad, rfl, hl, hc⟩ := h.2 h0
    exact h.keep hg.size fun p hp he => hg.cell_far p hp (by rw [he ad rfl]; exact hr ad rfl)
set_option maxRecDepth 100000 in
theorem RB.up {w w' : World} {B : Option Addr} {n : Nat} {bs : List Int} (h : RB w B n bs) (hb : Below w.heap.size w w') : RB w' B n bs := h.keep hb.size fun _ hp _ => hb.cell hp
set_option maxRecDepth 100000 in
theorem gb_trans {w w' w'' : World} {row : Option Nat} (h1 : w.grownBy w' row) (h2 : w'.grownBy w'' row) : w.grownBy w'' row :=
  ⟨h2.os.trans h1.os, h2.tape.trans h1.tape, h2.output.trans h1.output, Nat.le_trans h1.size h2.size, fun i hi hne => (h2.block i (Nat.lt_of_lt_of_le hi h1.size) hne).trans (h1.block i hi hne)⟩
set_option maxRecDepth 100000 in
theorem gb_of_up {w w' : World} (row : Option Nat) (hb : Below w.heap.size w w') : w.grownBy w' row := only_of_below hb row
/-- The cursor: a block of three cells; the bytes lie below it. -/
structure Cur (w : World) (g : Nat) (B : Option Addr) (n c : Nat) (bs : List Int) : Prop where
  blk : ∃ i h : Int, Blk w g 93 #[.slice B n c, .int .i64 i, .int .i64 h] ∧ 0 ≤ i ∧ i ≤ 9223372036854775807
  bytes : RB w B n bs
  low : ∀ ad, B = some ad → ad.block < g
  small : n ≤ 1048576
section
variable {w w' : World} {g n c : Nat} {B : Option Addr} {bs : List Int}
set_option maxRecDepth 100000 in
theorem Cur.lt (h : Cur w g B n c bs) : g < w.heap.size := by obtain ⟨i, h', hb, _⟩ := h.blk; exact hb.lt
set_option maxRecDepth 100000 in
theorem Cur.up (h : Cur w g B n c bs) (hb : Below w.heap.size w w') : Cur w' g B n c bs := by
  obtain ⟨i, h', hk, hi⟩ := h.blk
  exact ⟨⟨i, h', hk.up hb, hi⟩, h.bytes.up hb, h.low, h.small⟩
set_option maxRecDepth 100000 in
theorem Cur.grown {row : Option Nat} (h : Cur w g B n c bs) (hg : w.grownBy w' row) (h1 : ∀ k, row = some k → g < k) : Cur w' g B n c bs := by
  obtain ⟨i, h', hk, hi⟩ := h.blk
  refine ⟨⟨i, h', hk.grown hg (fun e => ?_), hi⟩, h.bytes.grown hg (fun ad e1 e2 => ?_), h.low, h.small⟩
  · have := h1 g e.symm; omega
  · have := h1 _ e2.symm; have := h.low ad e1; omega
end
/-- A call that moves the cursor and makes new memory, and leaves the rest. -/
def Dr (g : Nat) (B : Option Addr) (n c : Nat) (bs : List Int) (w : World) (R : Value → World → Prop) (e : Ending) (w' : World) : Prop := ∃ v, e = .returned v ∧ R v w' ∧ Cur w' g B n c bs ∧ w.grownBy w' (some g)
set_option maxRecDepth 100000 in
theorem and_255 (v : Int) : 0 ≤ bits .and .i64 v 255 ∧ bits .and .i64 v 255 ≤ 255 := by
  have e : bits .and .i64 v 255 = IntKind.i64.wrap ((BitVec.ofInt 64 v &&& BitVec.ofInt 64 ((255 : Nat) : Int)).toNat : Int) := rfl
  rw [e, BitVec.toNat_and, ofInt_i64 255 (by omega), IntKind.wrap_i64]
  have : (BitVec.ofInt 64 v).toNat &&& 255 ≤ 255 := Nat.and_le_right
  omega
set_option maxRecDepth 100000 in
theorem OwnI.far_gb {w w' : World} {base m d g : Nat} {A : Option Addr} {xs : List Int} (h : OwnI w base A m d xs) (hg : w.grownBy w' (some g)) (hlt : g < base) : OwnI w' base A m d xs :=
  h.kept hg (by
    rcases hv : (Value.slice A m d).ownBlock with _ | k
    · exact .inl rfl
    · have := (h.block k hv).1
      exact .inr (fun e => by injection e with e; omega))
end Go.Proofs.YthncdjcmlpiebaaGreatDoor
namespace Go.Proofs.YthncdjcmlpiebaaGreatDoor
open Go.RowKit
set_option maxRecDepth 100000 in
set_option maxHeartbeats 1000000 in
theorem l2Pair_same {A : Option Addr} {n c v : Nat} {Q : List Nat} {w : World} (hX : RI w A n (ints Q)) (h : GOk n Q) (hv : v < n) :
    Calls Tryz.prog 111 #[.agg #[.int .i64 n, .slice A n c], .int .i64 v, .int .i64 v] w fun e w' => e = .returned (.bool false) ∧ Below w.heap.size w w' := by
  have hn7 := h.le
  go_enter Tryz.func111, Tryz.ntmps111
  go_wp2_with fail
  refine (specIsGraph_is (hX.up (by go_grown)) (by omega) h.is).mono ?_
  rintro e w1 ⟨rfl, hb1⟩
  have hU1 : Up w w1 := Up.then_ (by go_grown) hb1
  have hblk := (Blk.new w 29 #[.int .i64 n, .slice A n c]).up hb1
  have hyb := hblk.two
  go_wp2
  go_ret
  exact ⟨rfl, hU1⟩
set_option maxRecDepth 100000 in
set_option maxHeartbeats 2000000 in
theorem addEdge_same (ad : Addr) (n c v : Nat) (Q : List Nat) (w : World) (hX : RI w (some ad) n (ints Q)) (h : GOk n Q) (hv : v < n) :
    Calls Tryz.prog 62 #[.agg #[.int .i64 n, .slice (some ad) n c], .int .i64 v, .int .i64 v] w (GivesGB n (ints Q) false w) := by
  have hn7 := h.le
  have hl := h.len
  go_enter Tryz.func62, Tryz.ntmps62
  go_wp2_with fail
  refine (l2Copy_nat ad n c Q _ (hX.up (by go_grown)) hl (by omega) (by omega)).mono ?_
  rintro e w1 ⟨g, d, rfl, hown, hb1, hg1⟩
  have hU1 : Up w w1 := Up.then_ (by go_grown) hb1
  replace hX := hX.up hU1
  replace hown := hown.more (base' := w.heap.size) (by simp; omega)
  have hblk := ((Blk.new w 29 #[.int .i64 n, .slice (some ad) n c]).alloc (.cells #[.int .i64 0, .slice none 0 0] 29)).up hb1
  have hb6 := (Blk.new_at (w := w.alloc (.cells #[.int .i64 n, .slice (some ad) n c] 29)) (t := 29) (cs := #[.int .i64 0, .slice none 0 0]) (g := w.heap.size + 1) (by simp)).up hb1
  have yhblk := hblk.two
  have lhblk := hblk.lt
  have yhb6 := hb6.two
  have lhb6 := hb6.lt
  have hb8 := Blk.new w1 29 #[.int .i64 n, .slice (some ⟨g, 0, none⟩) n d]
  go_wp2_with fail
  refine (l2Pair_same (hX.up (by go_grown)) h hv).mono ?_
  rintro e w2 ⟨rfl, hb2⟩
  have hU2 : Up w1 w2 := Up.then_ (by go_grown) hb2
  replace hX := hX.up hU2
  replace hblk := hblk.up hU2
  replace hb6 := hb6.up hU2
  replace hown := hown.up hU2
  replace yhblk := hblk.two
  replace lhblk := hblk.lt
  replace yhb6 := hb6.two
  replace lhb6 := hb6.lt
  replace hb8 := hb8.up hb2
  replace yhblk := hblk.two
  replace lhblk := hblk.lt
  replace yhb6 := hb6.two
  replace lhb6 := hb6.lt
  have yhb8 := hb8.two
  have lhb8 := hb8.lt
  have hfz := hb6.frozen
  have hf0 := hfz 0
  have hf1 := hfz 1
  clear hfz
  have hfin := ((hb6.set_ 0 (.int .i64 n)).set_ 1 (.slice (some ⟨g, 0, none⟩) n d)).two
  have hof := (hown.other_store (i := 0) hb6 (by decide) (.int .i64 n)).other_store (i := 1) (hb6.set_ 0 (.int .i64 n)) (by decide) (.slice (some ⟨g, 0, none⟩) n d)
  have hbf : Below w.heap.size w ((w2.setCell ⟨w.heap.size + 1, 0, none⟩ (.int .i64 n)).setCell ⟨w.heap.size + 1, 1, none⟩ (.slice (some ⟨g, 0, none⟩) n d)) := ((Up.then_ hU1 hU2).setCell (by simp) _).setCell (by simp) _
  go_wp2
  generalize (w2.setCell ⟨w.heap.size + 1, 0, none⟩ (.int .i64 n)).setCell ⟨w.heap.size + 1, 1, none⟩ (.slice (some ⟨g, 0, none⟩) n d) = Wf at hfin hof hbf ⊢
  refine bodyPost_ret (v := .tuple #[.agg #[.int .i64 n, .slice (some ⟨g, 0, none⟩) n d], .bool false]) ?_ rfl ?_
  · simp [results, Tryz.results62, go_sem, hfin]
  exact givesGB_of hl hof (Nat.le_refl _) hbf
set_option maxRecDepth 100000 in
/-- 'AddEdge' between two vertices, the same or not: a graph again. -/
theorem addEdge_graph (ad : Addr) (n c v x : Nat) (Q : List Nat) (w : World) (hX : RI w (some ad) n (ints Q)) (h : GOk n Q) (hv : v < n) (hx : x < n) :
    Calls Tryz.prog 62 #[.agg #[.int .i64 n, .slice (some ad) n c], .int .i64 v, .int .i64 x] w fun e w' => ∃ g d Q' b, e = .returned (.tuple #[.agg #[.int .i64 n, .slice (some ⟨g, 0, none⟩) n d], .bool b]) ∧ GOk n Q' ∧ OwnI w' w.heap.size (some ⟨g, 0, none⟩) n d (ints Q') ∧ Below w.heap.size w w' := by
  have key : ∀ (Q' : List Nat) (b : Bool) (e : Ending) (w' : World), GOk n Q' → GivesGB n (ints Q') b w e w' → ∃ g d Q' b, e = .returned (.tuple #[.agg #[.int .i64 n, .slice (some ⟨g, 0, none⟩) n d], .bool b]) ∧ GOk n Q' ∧ OwnI w' w.heap.size (some ⟨g, 0, none⟩) n d (ints Q') ∧ Below w.heap.size w w' := by
    rintro Q' b e w' h' ⟨A, d, rfl, hown, hb⟩
    have e1 : (ints Q').length = n := by rw [ints_len, h'.len]
    rw [e1] at hown ⊢
    obtain ⟨g, rfl⟩ := hown.form h'.pos
    exact ⟨g, d, Q', b, rfl, h', hown, hb⟩
  by_cases e : v = x
  · subst e
    exact (addEdge_same ad n c v Q w hX h hv).mono fun e w' hg => key Q false e w' h hg
  · exact (addEdge_ok ad n c v x Q w hX h hv hx e).mono fun e' w' hg => key _ _ e' w' (h.addE hv hx e) hg
end Go.Proofs.YthncdjcmlpiebaaGreatDoor
namespace Go.Proofs.YthncdjcmlpiebaaGreatDoor
open Go.RowKit
set_option maxRecDepth 100000 in
theorem l1New_any (B : Option Addr) (n c : Nat) (bs : List Int) (w : World) (hB : RB w B n bs) (hn : n ≤ 1048576) (hlow : ∀ ad, B = some ad → ad.block < w.heap.size) :
    Calls Tryz.prog 58 #[.slice B n c] w fun e w' => ∃ g, e = .returned (.pointer (some ⟨g, 0, none⟩)) ∧ Cur w' g B n c bs ∧ Below w.heap.size w w' ∧ w.heap.size ≤ g := by
  go_enter Tryz.func58, Tryz.ntmps58
  go_wp2
  go_loop [3, 4] (fun h i => ∃ (x : Int) (k : Nat), k ≤ n ∧ h = .int .i64 x ∧ i = .int .i64 k) (fun _ i => n - (intOf i).toNat)
  case atStart => exact ⟨_, 0, Nat.zero_le _, rfl, rfl⟩
  case round =>
    obtain ⟨x, k, hk, rfl, rfl⟩ := hrel
    by_cases hkn : k < n ∧ k < 4000
    · obtain ⟨h1, h2⟩ := hkn
      obtain ⟨ad, rfl, hl, hc⟩ := hB.2 (by omega)
      obtain ⟨hc1, hc2, hc3⟩ := hc k h1
      obtain ⟨b, hb⟩ : ∃ b, b = bs.getD k 0 := ⟨_, rfl⟩
      rw [← hb] at hc1 hc2 hc3
      clear hb hc
      obtain ⟨m1, hm1⟩ : ∃ m1, wrap64 (x * 131) = m1 := ⟨_, rfl⟩
      obtain ⟨m2, hm2⟩ : ∃ m2, wrap64 (m1 + b) = m2 := ⟨_, rfl⟩
      obtain ⟨m3, hm3⟩ : ∃ m3, wrap64 (m2 + 7) = m3 := ⟨_, rfl⟩
      obtain ⟨m4, hm4⟩ : ∃ m4, bits .and .i64 m3 1073741823 = m4 := ⟨_, rfl⟩
      go_wp2
      go_round
      case rel => exact ⟨_, k + 1, by omega, rfl, by go_num⟩
      case measure => simp [intOf]; omega
    · have hcur : Cur (w.alloc (.cells #[.slice B n c, .int .i64 0, .int .i64 x] 93)) w.heap.size B n c bs :=
        ⟨⟨0, x, Blk.new _ _ _, by omega, by omega⟩, hB.up (by go_grown), hlow, hn⟩
      by_cases h1 : k < n
      · have h2 : ¬ k < 4000 := fun e => hkn ⟨h1, e⟩
        go_wp2
        go_ret
        exact ⟨_, rfl, hcur, by go_grown, Nat.le_refl _⟩
      · go_wp2
        go_ret
        exact ⟨_, rfl, hcur, by go_grown, Nat.le_refl _⟩
set_option maxRecDepth 100000 in
theorem grown_drewN {w w' : World} {row : Option Nat} (h : w.grownBy w' row) (k : Nat) : w.grownBy (w'.drewN k) row := ⟨h.os, h.tape, h.output, h.size, h.block⟩
set_option maxRecDepth 100000 in
theorem Blk.three {w : World} {g : Nat} {t : TypeId} {x y z : Value} (h : Blk w g t #[x, y, z]) : w.cell? ⟨g, 0, none⟩ = some x ∧ w.cell? ⟨g, 1, none⟩ = some y ∧ w.cell? ⟨g, 2, none⟩ = some z := ⟨h.cell 0, h.cell 1, h.cell 2⟩
set_option maxRecDepth 100000 in
theorem l1Byte_any {g : Nat} {B : Option Addr} {n c : Nat} {bs : List Int} {w : World} (hC : Cur w g B n c bs) :
    Calls Tryz.prog 125 #[.pointer (some ⟨g, 0, none⟩)] w (Dr g B n c bs w fun v _ => ∃ x : Nat, v = .int .i64 x ∧ x ≤ 255) := by
  obtain ⟨i, h, hk, hi0, hi1⟩ := hC.blk
  have hy := hk.three
  have hf := hk.frozen 2
  obtain ⟨m1, hm1⟩ : ∃ m1, wrap64 (h * 6364136223846793005) = m1 := ⟨_, rfl⟩
  obtain ⟨m2, hm2⟩ : ∃ m2, wrap64 (m1 + 1442695040888963407) = m2 := ⟨_, rfl⟩
  go_enter Tryz.func125, Tryz.ntmps125
  go_wp2_with fail
  have hk1 := hk.set_ 2 (.int .i64 m2)
  have hg1 : w.grownBy (w.setCell ⟨g, 2, none⟩ (.int .i64 m2)) (some g) := grown_setCell w ⟨g, 2, none⟩ (.int .i64 m2)
  generalize w.setCell ⟨g, 2, none⟩ (.int .i64 m2) = w1 at hk1 hg1 ⊢
  change Blk w1 g 93 #[.slice B n c, .int .i64 i, .int .i64 m2] at hk1
  have hB1 := hC.bytes.grown hg1 (fun ad e e2 => by have := hC.low ad e; injection e2 with e2; omega)
  clear hy hf hm1 hm2 hk
  have hy := hk1.three
  go_quiet (fail)
  go_wp2_with fail
  have hx := and_255 (bits .xor .i64 (m2 / 8589934592) (m2 / 35184372088832))
  generalize bits .and .i64 (bits .xor .i64 (m2 / 8589934592) (m2 / 35184372088832)) 255 = x0 at hx ⊢
  have hk2 := hk1.drewN nq
  have hg2 := grown_drewN hg1 nq
  have hB2 : RB (w1.drewN nq) B n bs := hB1
  generalize w1.drewN nq = w2 at hk2 hg2 hB2 ⊢
  clear hy hk1 hg1 hB1
  have hy := hk2.three
  go_quiet (fail)
  have hk3 := hk2.drewN nq
  have hg3 := grown_drewN hg2 nq
  have hB3 : RB (w2.drewN nq) B n bs := hB2
  generalize w2.drewN nq = w3 at hk3 hg3 hB3 ⊢
  clear hy hk2 hg2 hB2
  have hy := hk3.three
  obtain ⟨k, rfl⟩ : ∃ k : Nat, i = (k : Int) := ⟨i.toNat, by omega⟩
  have hlow := hC.low
  have hsm := hC.small
  by_cases hkn : k < n
  · obtain ⟨ad, rfl, hl, hc⟩ := hB3.2 (by omega)
    obtain ⟨hc1, hc2, hc3⟩ := hc k hkn
    obtain ⟨b, hb⟩ : ∃ b, b = bs.getD k 0 := ⟨_, rfl⟩
    rw [← hb] at hc1 hc2 hc3
    clear hb hc
    go_wp2_with fail
    go_quiet (fail)
    have hz := and_255 (x0 + b)
    generalize bits .and .i64 (x0 + b) 255 = z0 at hz ⊢
    have hk4 := hk3.drewN nq
    have hg4 := grown_drewN hg3 nq
    have hB4 : RB (w3.drewN nq) (some ad) n bs := hB3
    generalize w3.drewN nq = w4 at hk4 hg4 hB4 ⊢
    clear hy hk3 hg3 hB3 hc1
    have hy := hk4.three
    have hf := hk4.frozen 1
    have hk5 := hk4.set_ 1 (.int .i64 ((k : Int) + 1))
    have hg5 := gb_trans hg4 (grown_setCell w4 ⟨g, 1, none⟩ (.int .i64 ((k : Int) + 1)))
    have hB5 := hB4.grown (grown_setCell w4 ⟨g, 1, none⟩ (.int .i64 ((k : Int) + 1))) (fun a e e2 => by have := hlow a e; injection e2 with e2; simp at e2; omega)
    obtain ⟨z1, rfl⟩ : ∃ z1 : Nat, z0 = (z1 : Int) := ⟨z0.toNat, by omega⟩
    go_wp2
    go_ret
    exact ⟨_, rfl, ⟨z1, rfl, by omega⟩, ⟨⟨_, _, hk5, by omega, by omega⟩, hB5, hlow, hsm⟩, hg5⟩
  · obtain ⟨z1, rfl⟩ : ∃ z1 : Nat, x0 = (z1 : Int) := ⟨x0.toNat, by omega⟩
    go_wp2
    go_ret
    exact ⟨_, rfl, ⟨z1, rfl, by omega⟩, ⟨⟨_, _, hk3, by omega, by omega⟩, hB3, hlow, hsm⟩, hg3⟩
set_option maxRecDepth 100000 in
theorem l1Below_any {g : Nat} {B : Option Addr} {n c : Nat} {bs : List Int} {w : World} (hC : Cur w g B n c bs) (m : Nat) (h0 : 1 ≤ m) (hm : m ≤ 256) :
    Calls Tryz.prog 77 #[.pointer (some ⟨g, 0, none⟩), .int .i64 (m : Nat)] w (Dr g B n c bs w fun v _ => ∃ x : Nat, v = .int .i64 x ∧ x < m) := by
  go_enter Tryz.func77, Tryz.ntmps77
  go_wp2_with fail
  refine (l1Byte_any hC).mono ?_
  rintro e w1 ⟨v, rfl, ⟨x, rfl, hx⟩, hC1, hg1⟩
  go_wp2
  go_ret
  exact ⟨_, rfl, ⟨x % m, rfl, Nat.mod_lt _ h0⟩, hC1, hg1⟩
set_option maxRecDepth 100000 in
theorem l1Once_any {g : Nat} {B : Option Addr} {n c : Nat} {bs : List Int} {w : World} (hC : Cur w g B n c bs) (m : Nat) (h0 : 1 ≤ m) (hm : m ≤ 256) :
    Calls Tryz.prog 96 #[.pointer (some ⟨g, 0, none⟩), .int .i64 (m : Nat)] w (Dr g B n c bs w fun v _ => ∃ b : Bool, v = .bool b) := by
  go_enter Tryz.func96, Tryz.ntmps96
  go_wp2_with fail
  refine (l1Below_any hC m h0 hm).mono ?_
  rintro e w1 ⟨v, rfl, ⟨x, rfl, hx⟩, hC1, hg1⟩
  go_wp2
  go_ret
  exact ⟨_, rfl, ⟨_, rfl⟩, hC1, hg1⟩
set_option maxRecDepth 100000 in
theorem l1PickInt_any {g : Nat} {B : Option Addr} {n c : Nat} {bs : List Int} {w : World} (hC : Cur w g B n c bs) {A : Option Addr} {m d : Nat} {xs : List Int} (hA : RI w A m xs) (hAg : ∀ ad, A = some ad → ad.block ≠ g) (h0 : 1 ≤ m) (hm : m ≤ 256) :
    Calls Tryz.prog 76 #[.pointer (some ⟨g, 0, none⟩), .slice A m d] w (Dr g B n c bs w fun v _ => ∃ j, j < m ∧ v = .int .i64 (xs.getD j 0)) := by
  go_enter Tryz.func76, Tryz.ntmps76
  go_wp2_with fail
  refine (l1Below_any hC m h0 hm).mono ?_
  rintro e w1 ⟨v, rfl, ⟨x, rfl, hx⟩, hC1, hg1⟩
  have hA1 := hA.grown hg1 (fun ad e e2 => hAg ad e (by injection e2))
  obtain ⟨ad, rfl, _, hc⟩ := hA1.at_ hx
  obtain ⟨z, hz⟩ : ∃ z, z = xs.getD x 0 := ⟨_, rfl⟩
  rw [← hz] at hc
  have HZ := Lib.hid hz
  clear hz
  go_wp2
  go_ret
  exact ⟨_, rfl, ⟨x, hx, by rw [← HZ.out]; rfl⟩, hC1, hg1⟩
end Go.Proofs.YthncdjcmlpiebaaGreatDoor
namespace Go.Proofs.YthncdjcmlpiebaaGreatDoor
open Go.RowKit
set_option maxRecDepth 100000 in
theorem sameInts_up {A B : Option Addr} {n c d : Nat} {xs : List Int} {w : World} (hA0 : RI w A n xs) (hB0 : RI w B n xs) (hn : n ≤ 1048576) :
    Calls Tryz.prog 14 #[.slice A n c, .slice B n d] w fun e w' => e = .returned (.bool true) ∧ Below w.heap.size w w' := by
  go_enter Tryz.func14, Tryz.ntmps14
  go_wp2_with fail
  go_loopw [5] (fun i wr => ∃ k : Nat, k ≤ n ∧ i = .int .i64 k ∧ Up w wr) (fun i _ => n - (intOf i).toNat)
  case atStart => exact ⟨0, Nat.zero_le _, rfl, Up.refl _⟩
  case round =>
    obtain ⟨k, hk, rfl, hU⟩ := hrel
    have hA := hA0.up hU
    have hB := hB0.up hU
    by_cases hkn : k < n
    · obtain ⟨ad, rfl, _, ha⟩ := hA.at_ hkn
      obtain ⟨bd, rfl, _, hb⟩ := hB.at_ hkn
      go_wp2
      go_quiet (fail)
      go_wp2
      go_roundw
      case rel => exact ⟨k + 1, by omega, by go_num, below_drewN hU _⟩
      case measure => simp [intOf]; omega
    · obtain rfl : k = n := by omega
      go_wp2
      go_ret
      exact ⟨rfl, hU⟩
set_option maxRecDepth 100000 in
theorem big_no (B : Option Addr) (n c : Nat) (w : World) (hn : n ≤ 1048576) : Calls Tryz.prog 5 #[.slice B n c] w fun e w' => e = .returned (.bool false) ∧ Below w.heap.size w w' := by
  go_enter Tryz.func5, Tryz.ntmps5
  go_wp2
  go_ret
  exact ⟨ret_bool (decide_eq_false (by omega)), Below.refl _ _⟩
set_option maxRecDepth 100000 in
theorem big_yes (B : Option Addr) (n c : Nat) (w : World) (hn : 1048576 < n) (_hm : n ≤ 9223372036854775807) : Calls Tryz.prog 5 #[.slice B n c] w fun e w' => e = .returned (.bool true) ∧ Below w.heap.size w w' := by
  go_enter Tryz.func5, Tryz.ntmps5
  go_wp2
  go_ret
  exact ⟨ret_bool (decide_eq_true (by omega)), Below.refl _ _⟩
end Go.Proofs.YthncdjcmlpiebaaGreatDoor
namespace Go.Proofs.YthncdjcmlpiebaaGreatDoor
open Go.ChangeShapes Go.WideShapes Go.ChangeAt Go.RowKit Go.Joins Go.Deep
section
variable {H : Type} {enc : TypeId × Value → H} {P : Program}
variable {W : World} {base : Nat} {spare : Nat → Bool} {held : Bool}
set_option maxRecDepth 100000 in
theorem open_B {r : Reach} {b0 : Nat} {T e : TypeId} {v : Value} {d : DataW H} {p : List MemPlace} (hT : P.underlying T = some (.slice e)) (he : P.underlying e = some (.int .u8)) (hc : P.cellsOf e = 1)
    (hv : Value.okWide P W r b0 T v) (h : DataW.Trod enc P W base spare held T v d p) : ∃ A n c xs, v = .slice A n c ∧ RB W A n xs ∧ n ≤ 9223372036854775807 := by
  obtain ⟨a0, len, cap, rfl⟩ := okWide_slice hT hv
  obtain ⟨fuel, hf⟩ := h
  have hf' : DataW.trod enc P W base spare held fuel T [.slice a0 len cap] = some (d, p) := by simpa [Value.cells] using hf
  rcases open_ints hT he hc hf' with ⟨hcs, _⟩ | ⟨a, len', cap', zs, hcs, hlt, hl, hm, hz, _, hcell, hwf⟩
  · simp at hcs
    obtain ⟨rfl, rfl, rfl⟩ := hcs
    exact ⟨none, 0, 0, [], rfl, ⟨rfl, fun h0 => absurd h0 (by omega)⟩, by omega⟩
  · simp at hcs
    obtain ⟨rfl, rfl, rfl⟩ := hcs
    have hlz : len ≤ zs.length := by split at hz <;> omega
    refine ⟨some a, len, cap, zs.take len, rfl, ⟨by simp [hlz], fun hn => ⟨a, rfl, ?_, fun j hj => ?_⟩⟩, by unfold maxLen at hm; omega⟩
    · have := hcell 0 (by omega)
      have h2 := World.block_lt_of_cell? W _ this
      rwa [block_of_add] at h2
    · have e1 : (zs.take len).getD j 0 = zs.getD j 0 := by simp [List.getD, hj]
      have hj2 : j < zs.length := by omega
      have e2 : zs.getD j 0 = zs[j] := by simp [List.getD, List.getElem?_eq_getElem hj2]
      refine ⟨?_, ?_⟩
      · rw [hcell j (by omega), e1]
      · rw [e1, e2]
        have := hwf zs[j] (List.getElem_mem hj2)
        have h1 : IntKind.u8.min = 0 := rfl
        have h2 : IntKind.u8.max = 255 := rfl
        simp only [Lit.wf, Bool.and_eq_true, decide_eq_true_eq] at this
        omega
set_option maxRecDepth 100000 in
theorem okWide_low {r : Reach} {b0 : Nat} {T e : TypeId} {A : Option Addr} {n c : Nat} (hT : P.underlying T = some (.slice e)) (hv : Value.okWide P W r b0 T (.slice A n c)) : ∀ ad, A = some ad → ad.block < W.heap.size := by
  rintro ad rfl
  simp only [Value.okWide, hT, Cell.okWide, Cell.ok, World.has] at hv
  obtain ⟨_, _, _, _, row, cells, hs, _⟩ := hv
  rcases Nat.lt_or_ge ad.block W.heap.size with h | h
  · exact h
  · unfold World.shape? at hs
    rw [Array.getElem?_eq_none h] at hs
    cases hs
end
end Go.Proofs.YthncdjcmlpiebaaGreatDoor
