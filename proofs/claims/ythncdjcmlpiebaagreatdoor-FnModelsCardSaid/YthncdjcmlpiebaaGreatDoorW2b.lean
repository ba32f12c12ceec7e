/- Walks of chapter 2: a copy of a graph, an edge more. -/
import Derived.Test.YthncdjcmlpiebaaGreatDoorW3A
import Derived.Test.YthncdjcmlpiebaaGreatDoorW7A
import Derived.Test.YthncdjcmlpiebaaGreatDoorBasA
import Derived.Test.YthncdjcmlpiebaaGreatDoorPurA
namespace Go.Proofs.YthncdjcmlpiebaaGreatDoor
open Go.RowKit
set_option maxRecDepth 100000 in
theorem Below.alloc_drew_ (W : World) (o : Obj) {w : World} (h : Below W.heap.size (W.alloc o).drew w) : Below W.heap.size W w := ((Below.refl W.heap.size W).alloc (Nat.le_refl _) o).drew.trans h
/-- A graph of the call's own. -/
def GivesG (N : Int) (xs : List Int) (w : World) (e : Ending) (w' : World) : Prop :=
  ∃ A c, e = .returned (.agg #[.int .i64 N, .slice A xs.length c]) ∧ OwnI w' w.heap.size A xs.length c xs ∧ Below w.heap.size w w'
set_option maxRecDepth 100000 in
set_option maxHeartbeats 1000000 in
theorem l2Copy_any (N : Int) (ad : Addr) (n c : Nat) (X : List Int) (w : World) (hX : RI w (some ad) n X) (hn : n ≤ 1048576) :
    Calls Tryz.prog 110 #[.agg #[.int .i64 N, .slice (some ad) n c]] w (GivesG N X w) := by
  have hl := Lib.hid hX.1
  have hX2 : RI ((w.alloc (.cells #[.int .i64 N, .slice (some ad) n c] 29)).alloc (.cells #[.int .i64 0, .slice none 0 0] 29)) (some ad) n X := hX.up (by go_grown)
  have hb0 := (Blk.new w 29 #[.int .i64 N, .slice (some ad) n c]).alloc (.cells #[.int .i64 0, .slice none 0 0] 29)
  have hb2 := Blk.new_at (w := w.alloc (.cells #[.int .i64 N, .slice (some ad) n c] 29)) (t := 29) (cs := #[.int .i64 0, .slice none 0 0]) (g := w.heap.size + 1) (by simp)
  have hbel : Below w.heap.size w ((w.alloc (.cells #[.int .i64 N, .slice (some ad) n c] 29)).alloc (.cells #[.int .i64 0, .slice none 0 0] 29)) := by go_grown
  go_enter Tryz.func110, Tryz.ntmps110
  go_wp2_with fail
  obtain ⟨W0, hW0⟩ : ∃ W0, W0 = (w.alloc (.cells #[.int .i64 N, .slice (some ad) n c] 29)).alloc (.cells #[.int .i64 0, .slice none 0 0] 29) := ⟨_, rfl⟩
  rw [← hW0] at hX2 hb0 hb2 hbel
  rw [← hW0]
  clear hW0
  have hl0 := hb0.lt
  have hl2 := hb2.lt
  have hown0 := OwnI.made (base := W0.heap.size) W0.drew (Nat.le_refl _)
  go_region_held3 (fun w' => w'.cell? ⟨w.heap.size, 0, none⟩ = some (.int .i64 N) ∧ w'.cell? ⟨w.heap.size, 1, none⟩ = some (.slice (some ad) n c))
    (first | exact (hb0.drew.alloc _).two | exact hb0.drew.two | exact hc5.two | exact ((hc5.far (by simp) _).far (by simp) _).two)
    (first | (refine step_append_new rfl (.tmp 5) (.tmp 7) rfl rfl hown0 rfl (hX2.drew.alloc _) hn (by simp) ?_; intro A' c' w5 hown5 hb5 hg5; have hc5 := (hb0.drew.alloc (.cells #[] 3)).below hb5 hl0; have hd5 := (hb2.drew.alloc (.cells #[] 3)).below hb5 hl2; have e5 := hd5.two; have f5 := hd5.frozen 0; have g5 := hd5.frozen 1))
  have hfin := (hd5.set_ 0 (.int .i64 N)).set_ 1 (.slice A' n c')
  have hyf := hfin.two
  have hof := (hown5.other_store (i := 0) hd5 (by decide) (.int .i64 N)).other_store (i := 1) (hd5.set_ 0 (.int .i64 N)) (by decide) (.slice A' n c')
  have hbf : Below w.heap.size w ((w5.setCell ⟨w.heap.size + 1, 0, none⟩ (.int .i64 N)).setCell ⟨w.heap.size + 1, 1, none⟩ (.slice A' n c')) := ((hbel.trans ((Below.alloc_drew_ W0 _ hb5).mono hbel.size)).setCell (by simp) _).setCell (by simp) _
  go_wp2
  generalize (w5.setCell ⟨w.heap.size + 1, 0, none⟩ (.int .i64 N)).setCell ⟨w.heap.size + 1, 1, none⟩ (.slice A' n c') = Wf at hfin hyf hof hbf ⊢
  refine bodyPost_ret (v := .agg #[.int .i64 N, .slice A' n c']) ?_ rfl ?_
  · simp [results, Tryz.results110, go_sem, hyf]
  have e := hl.out
  subst e
  exact ⟨A', c', rfl, hof.more hbel.size, hbf⟩
set_option maxRecDepth 100000 in
theorem l2Copy_nat (ad : Addr) (n c : Nat) (Q : List Nat) (w : World) (hX : RI w (some ad) n (ints Q)) (hl : Q.length = n) (h0 : 0 < n) (hn : n ≤ 1048576) :
    Calls Tryz.prog 110 #[.agg #[.int .i64 n, .slice (some ad) n c]] w fun e w' => ∃ g d, e = .returned (.agg #[.int .i64 n, .slice (some ⟨g, 0, none⟩) n d]) ∧ OwnI w' w.heap.size (some ⟨g, 0, none⟩) n d (ints Q) ∧ Below w.heap.size w w' ∧ w.heap.size ≤ g := by
  refine (l2Copy_any n ad n c (ints Q) w hX hn).mono ?_
  rintro e w' ⟨B, d, rfl, hown, hb⟩
  have e : (ints Q).length = n := by rw [ints_len, hl]
  rw [e] at hown ⊢
  obtain ⟨g, rfl⟩ := hown.form h0
  exact ⟨g, d, rfl, hown, hb, (hown.block g rfl).1⟩
set_option maxRecDepth 100000 in
set_option maxHeartbeats 1000000 in
theorem l2Pair_yes {A : Option Addr} {n c v x : Nat} {Q : List Nat} {w : World} (hX : RI w A n (ints Q)) (h : GOk n Q) (hv : v < n) (hx : x < n) (hne : v ≠ x) :
    Calls Tryz.prog 111 #[.agg #[.int .i64 n, .slice A n c], .int .i64 v, .int .i64 x] w fun e w' => e = .returned (.bool true) ∧ Below w.heap.size w w' := by
  have hn7 := h.le
  have hne' : ((v : Int) != (x : Int)) = true := by rw [bne_iff_ne]; omega
  clear hne
  go_enter Tryz.func111, Tryz.ntmps111
  go_wp2_with fail
  refine (specIsGraph_is (hX.up (by go_grown)) (by omega) h.is).mono ?_
  rintro e w1 ⟨rfl, hb1⟩
  have hU1 : Up w w1 := Up.then_ (by go_grown) hb1
  have hblk := (Blk.new w 29 #[.int .i64 n, .slice A n c]).up hb1
  have hyb := hblk.two
  go_wp2
  go_ret
  exact ⟨rfl, hU1⟩
set_option maxRecDepth 100000 in
theorem add_0 (g k : Nat) : (⟨g, 0, none⟩ : Addr).add k = ⟨g, k, none⟩ := by unfold Addr.add; split <;> simp_all
set_option maxRecDepth 100000 in
theorem OwnI.nat {w : World} {base g n c k : Nat} {Q : List Nat} (h : OwnI w base (some ⟨g, 0, none⟩) n c (ints Q)) (hk : k < n) : w.cell? ⟨g, k, none⟩ = some (.int .i64 (nb Q k)) := by
  obtain ⟨ad, e, hc⟩ := h.ri.nb_at hk
  injection e with e
  subst e
  rw [add_0] at hc
  exact hc
set_option maxRecDepth 100000 in
theorem givesGB_of {w w' : World} {N : Int} {A : Option Addr} {n d base : Nat} {Q : List Nat} {b : Bool} (hl : Q.length = n) (hown : OwnI w' base A n d (ints Q)) (hbase : w.heap.size ≤ base) (hb : Below w.heap.size w w') :
    GivesGB N (ints Q) b w (.returned (.tuple #[.agg #[.int .i64 N, .slice A n d], .bool b])) w' := by
  subst hl
  have e := ints_len Q
  refine ⟨A, d, by rw [e], (hown.cast e.symm rfl).more hbase, hb⟩
set_option maxRecDepth 100000 in
theorem OwnI.putNat {w : World} {base g n c : Nat} {Q : List Nat} (h : OwnI w base (some ⟨g, 0, none⟩) n c (ints Q)) (k y : Nat) : OwnI (w.setCell ⟨g, k, none⟩ (.int .i64 (y : Int))) base (some ⟨g, 0, none⟩) n c (ints (Q.set k y)) := by
  have := (h.put k (y : Int)).1
  have e : (ints Q).set k (y : Int) = ints (Q.set k y) := by simp [ints]
  rw [e] at this
  exact this
set_option maxRecDepth 100000 in
theorem OwnI.frz {w : World} {base g n c : Nat} {xs : List Int} (h : OwnI w base (some ⟨g, 0, none⟩) n c xs) (k : Nat) : w.frozen? ⟨g, k, none⟩ = false := World.ownsRow.frozenAt h k
set_option maxRecDepth 100000 in
set_option maxHeartbeats 2000000 in
theorem addEdge_ok (ad : Addr) (n c v x : Nat) (Q : List Nat) (w : World) (hX : RI w (some ad) n (ints Q)) (h : GOk n Q) (hv : v < n) (hx : x < n) (hne : v ≠ x) :
    Calls Tryz.prog 62 #[.agg #[.int .i64 n, .slice (some ad) n c], .int .i64 v, .int .i64 x] w (GivesGB n (ints (addE Q v x)) (!(nb Q v).testBit x) w) := by
  have hn7 := h.le
  have hl := h.len
  go_enter Tryz.func62, Tryz.ntmps62
  go_wp2_with fail
  refine (l2Copy_nat ad n c Q _ (hX.up (by go_grown)) hl (by omega) (by omega)).mono ?_
  rintro e w1 ⟨g, d, rfl, hown, hb1, hg1⟩
  have hU1 : Up w w1 := Up.then_ (by go_grown) hb1
  replace hX := hX.up hU1
  replace hown := hown.more (base' := w.heap.size) (by simp; omega)
  have hblk := ((Blk.new w 29 #[.int .i64 n, .slice (some ad) n c]).alloc (.cells #[.int .i64 0, .slice none 0 0] 29)).up hb1
  have hb6 := (Blk.new_at (w := w.alloc (.cells #[.int .i64 n, .slice (some ad) n c] 29)) (t := 29) (cs := #[.int .i64 0, .slice none 0 0]) (g := w.heap.size + 1) (by simp)).up hb1
  have yhblk := hblk.two
  have lhblk := hblk.lt
  have yhb6 := hb6.two
  have lhb6 := hb6.lt
  have hb8 := Blk.new w1 29 #[.int .i64 n, .slice (some ⟨g, 0, none⟩) n d]
  go_wp2_with fail
  refine (l2Pair_yes (hX.up (by go_grown)) h hv hx hne).mono ?_
  rintro e w2 ⟨rfl, hb2⟩
  have hU2 : Up w1 w2 := Up.then_ (by go_grown) hb2
  replace hX := hX.up hU2
  replace hblk := hblk.up hU2
  replace hb6 := hb6.up hU2
  replace hown := hown.up hU2
  replace yhblk := hblk.two
  replace lhblk := hblk.lt
  replace yhb6 := hb6.two
  replace lhb6 := hb6.lt
  replace hb8 := hb8.up hb2
  replace yhblk := hblk.two
  replace lhblk := hblk.lt
  replace yhb6 := hb6.two
  replace lhb6 := hb6.lt
  have yhb8 := hb8.two
  have lhb8 := hb8.lt
  have hbit := h.sym v x
  rcases Bool.eq_false_or_eq_true ((nb Q v).testBit x) with e1 | e1
  · have HE := Lib.hid (addE_there h e1)
    have H1 := Lib.hid e1
    clear hbit e1
    go_wp2_with fail
    refine (l2Edge_is (hX.up (by go_grown)) h hv (by omega) H1.out).mono ?_
    rintro e w3 ⟨rfl, hb3⟩
    have hU3 : Up w2 w3 := Up.then_ (by go_grown) hb3
    replace hX := hX.up hU3
    replace hblk := hblk.up hU3
    replace hb6 := hb6.up hU3
    replace hown := hown.up hU3
    replace hb8 := hb8.up hU3
    replace yhblk := hblk.two
    replace lhblk := hblk.lt
    replace yhb6 := hb6.two
    replace lhb6 := hb6.lt
    replace yhb8 := hb8.two
    replace lhb8 := hb8.lt
    have hfz := hb6.frozen
    have hf0 := hfz 0
    have hf1 := hfz 1
    clear hfz
    have hfin := ((hb6.set_ 0 (.int .i64 n)).set_ 1 (.slice (some ⟨g, 0, none⟩) n d)).two
    have hof := (hown.other_store (i := 0) hb6 (by decide) (.int .i64 n)).other_store (i := 1) (hb6.set_ 0 (.int .i64 n)) (by decide) (.slice (some ⟨g, 0, none⟩) n d)
    have hbf : Below w.heap.size w ((w3.setCell ⟨w.heap.size + 1, 0, none⟩ (.int .i64 n)).setCell ⟨w.heap.size + 1, 1, none⟩ (.slice (some ⟨g, 0, none⟩) n d)) := ((Up.then_ (Up.then_ hU1 hU2) hU3).setCell (by simp) _).setCell (by simp) _
    go_wp2
    generalize (w3.setCell ⟨w.heap.size + 1, 0, none⟩ (.int .i64 n)).setCell ⟨w.heap.size + 1, 1, none⟩ (.slice (some ⟨g, 0, none⟩) n d) = Wf at hfin hof hbf ⊢
    refine bodyPost_ret (v := .tuple #[.agg #[.int .i64 n, .slice (some ⟨g, 0, none⟩) n d], .bool false]) ?_ rfl ?_
    · simp [results, Tryz.results62, go_sem, hfin]
    rw [H1.out, HE.out]
    exact givesGB_of hl hof (Nat.le_refl _) hbf
  · have H1 := Lib.hid e1
    have hs1 := add_bit e1
    have hs2 := add_bit (show (nb Q x).testBit v = false by rw [← hbit]; exact e1)
    clear hbit e1
    go_wp2_with fail
    refine (l2Edge_is (hX.up (by go_grown)) h hv (by omega) H1.out).mono ?_
    rintro e w3 ⟨rfl, hb3⟩
    have hU3 : Up w2 w3 := Up.then_ (by go_grown) hb3
    replace hX := hX.up hU3
    replace hblk := hblk.up hU3
    replace hb6 := hb6.up hU3
    replace hown := hown.up hU3
    replace hb8 := hb8.up hU3
    replace yhblk := hblk.two
    replace lhblk := hblk.lt
    replace yhb6 := hb6.two
    replace lhb6 := hb6.lt
    replace yhb8 := hb8.two
    replace lhb8 := hb8.lt
    have hg1' : w.heap.size ≤ g := by simp at hg1; omega
    have hcv := hown.nat hv
    have hfv := hown.frz v
    have hv7 := h.nb7 v
    have hx7 := h.nb7 x
    have hpx := p2_le (k := x) (by omega)
    have hpv := p2_le (k := v) (by omega)
    have hv1 : IntKind.i64.wrap ((2 : Int) ^ x) = ((p2 x : Nat) : Int) := by rw [IntWalk.i64_left]; exact shl_p2 (by omega)
    have hv2 : IntKind.i64.wrap ((2 : Int) ^ v) = ((p2 v : Nat) : Int) := by rw [IntWalk.i64_left]; exact shl_p2 (by omega)
    have hv3 : IntKind.i64.wrap ((nb Q v : Int) + ((p2 x : Nat) : Int)) = (nb Q v : Int) + ((p2 x : Nat) : Int) := IntWalk.i64_in _ (by omega)
    have hv4 : IntKind.i64.wrap ((nb Q x : Int) + ((p2 v : Nat) : Int)) = (nb Q x : Int) + ((p2 v : Nat) : Int) := IntWalk.i64_in _ (by omega)
    go_wp2_with fail
    go_still_tail 12, (by kernel_rfl)
    change wpList _ _ _ _ _ w3.drew
    have hcv2 : w3.drew.cell? ⟨g, v, none⟩ = some (.int .i64 (nb Q v)) := hcv
    have hfv2 : w3.drew.frozen? ⟨g, v, none⟩ = false := hfv
    go_wp2
    obtain ⟨w4, hw4⟩ : ∃ w4, w4 = (w3.setCell ⟨g, v, none⟩ (.int .i64 ((nb Q v : Int) + (p2 x : Int)))).drew := ⟨_, rfl⟩
    obtain ⟨Q1, hQ1⟩ : ∃ Q1, Q1 = Q.set v (nb Q v + 2 ^ x) := ⟨_, rfl⟩
    have hown4 : OwnI w4 w.heap.size (some ⟨g, 0, none⟩) n d (ints Q1) := by rw [hw4, hQ1]; exact (hown.putNat v (nb Q v + 2 ^ x)).drew
    have hblk4 : Blk w4 w.heap.size 29 #[.int .i64 n, .slice (some ad) n c] := by rw [hw4]; exact (hblk.far (fun e => own_blk_ne (e := 3) hown hblk (by decide) (by simp [Value.ownBlock, e])) _).drew
    have hb64 : Blk w4 (w.heap.size + 1) 29 #[.int .i64 0, .slice none 0 0] := by rw [hw4]; exact (hb6.far (fun e => own_blk_ne (e := 3) hown hb6 (by decide) (by simp [Value.ownBlock, e])) _).drew
    have hb84 : Blk w4 w1.heap.size 29 #[.int .i64 n, .slice (some ⟨g, 0, none⟩) n d] := by rw [hw4]; exact (hb8.far (fun e => own_blk_ne (e := 3) hown hb8 (by decide) (by simp [Value.ownBlock, e])) _).drew
    have hbel4 : Below w.heap.size w w4 := by rw [hw4]; exact ((Up.then_ (Up.then_ hU1 hU2) hU3).setCell hg1' _).drew
    rw [← hw4]
    clear hw4
    clear yhblk lhblk yhb6 lhb6 yhb8 lhb8 hcv hfv hcv2 hfv2
    have yhb8 := hb84.two
    have hcx := hown4.nat hx
    have hfx := hown4.frz x
    have hQx : nb Q1 x = nb Q x := by rw [hQ1, nb_set' (by omega), if_neg (fun e => hne e.symm)]
    have hQ2 : Q1.set x (nb Q x + 2 ^ v) = addE Q v x := by rw [hQ1, addE, hs1, hs2]
    rw [hQx] at hcx
    clear hQx hQ1
    have hown5 := hown4.putNat x (nb Q x + 2 ^ v)
    rw [hQ2] at hown5
    have hb65 := hb64.far (p := ⟨g, x, none⟩) (fun e => own_blk_ne (e := 3) hown4 hb64 (by decide) (by simp [Value.ownBlock, e])) (.int .i64 ((nb Q x + 2 ^ v : Nat) : Int))
    have hb85 := hb84.far (p := ⟨g, x, none⟩) (fun e => own_blk_ne (e := 3) hown4 hb84 (by decide) (by simp [Value.ownBlock, e])) (.int .i64 ((nb Q x + 2 ^ v : Nat) : Int))
    have hbel5 := hbel4.setCell (p := ⟨g, x, none⟩) hg1' (.int .i64 ((nb Q x + 2 ^ v : Nat) : Int))
    have hcast : ((nb Q x + 2 ^ v : Nat) : Int) = (nb Q x : Int) + (p2 v : Int) := rfl
    rw [hcast] at hown5 hb65 hb85 hbel5
    clear hcast
    have y65 := hb65.two
    have f650 := hb65.frozen 0
    have f651 := hb65.frozen 1
    have y85 := hb85.two
    have hfin := ((hb65.set_ 0 (.int .i64 n)).set_ 1 (.slice (some ⟨g, 0, none⟩) n d)).two
    have hof := (hown5.other_store (i := 0) hb65 (by decide) (.int .i64 n)).other_store (i := 1) (hb65.set_ 0 (.int .i64 n)) (by decide) (.slice (some ⟨g, 0, none⟩) n d)
    have hbf := (hbel5.setCell (p := ⟨w.heap.size + 1, 0, none⟩) (by simp) (.int .i64 n)).setCell (p := ⟨w.heap.size + 1, 1, none⟩) (by simp) (.slice (some ⟨g, 0, none⟩) n d)
    go_wp2_with fail
    go_still_tail 12, (by kernel_rfl)
    change wpList _ _ _ _ _ w4.drew
    have hcx2 : w4.drew.cell? ⟨g, x, none⟩ = some (.int .i64 (nb Q x)) := hcx
    have hfx2 : w4.drew.frozen? ⟨g, x, none⟩ = false := hfx
    go_wp2
    generalize ((w4.setCell ⟨g, x, none⟩ (.int .i64 ((nb Q x : Int) + (p2 v : Int)))).setCell ⟨w.heap.size + 1, 0, none⟩ (.int .i64 n)).setCell ⟨w.heap.size + 1, 1, none⟩ (.slice (some ⟨g, 0, none⟩) n d) = Wf at hfin hof hbf ⊢
    refine bodyPost_ret (v := .tuple #[.agg #[.int .i64 n, .slice (some ⟨g, 0, none⟩) n d], .bool true]) ?_ rfl ?_
    · simp [results, Tryz.results62, go_sem, hfin]
    rw [H1.out]
    exact givesGB_of (by rw [addE_len, hl]) hof.drew (Nat.le_refl _) hbf.drew
end Go.Proofs.YthncdjcmlpiebaaGreatDoor
