/- Draws: graphs. Walks of chapter 6: elimination orders. -/
import Derived.Test.YthncdjcmlpiebaaGreatDoorQc02
import Derived.Test.YthncdjcmlpiebaaGreatDoorQc03
import Derived.Test.YthncdjcmlpiebaaGreatDoorQc04
import Derived.Test.YthncdjcmlpiebaaGreatDoorQc05
import Derived.Deep.LoopGhost
import Derived.Deep.RegionLaw
namespace Go.Proofs.YthncdjcmlpiebaaGreatDoor
open Go.RowKit
set_option maxRecDepth 100000 in
theorem gb_up {w w' w'' : World} {row : Option Nat} (h : w.grownBy w' row) (hb : Below w'.heap.size w' w'') : w.grownBy w'' row := gb_trans h (gb_of_up row hb)
set_option maxRecDepth 100000 in
theorem gb_set {w w' : World} {row : Option Nat} {p : Addr} (h : w.grownBy w' row) (hp : w.heap.size ≤ p.block) (u : Value) : w.grownBy (w'.setCell p u) row :=
  ⟨h.os, h.tape, h.output, by simpa using h.size, fun i hi hne => (Below.heap_setCell w' p u i (by omega)).trans (h.block i hi hne)⟩
set_option maxRecDepth 100000 in
theorem Cur.set {w : World} {g n c : Nat} {B : Option Addr} {bs : List Int} (h : Cur w g B n c bs) {p : Addr} (hp : g < p.block) (u : Value) : Cur (w.setCell p u) g B n c bs :=
  h.grown (grown_setCell w p u) (fun k e => by injection e with e; omega)
/-- A graph in a box while it is drawn. -/
structure GS (w : World) (g : Nat) (B : Option Addr) (n c : Nat) (bs : List Int) (gr gb m : Nat) (wr : World) (A d : Nat) (Q : List Nat) : Prop where
  cur : Cur wr g B n c bs
  res : Blk wr gr 29 #[.int .i64 0, .slice none 0 0]
  box : Blk wr gb 29 #[.int .i64 m, .slice (some ⟨A, 0, none⟩) m d]
  own : OwnI wr w.heap.size (some ⟨A, 0, none⟩) m d (ints Q)
  ok : GOk m Q
  gby : w.grownBy wr (some g)
  low : g < w.heap.size
  hgr : w.heap.size ≤ gr
  hgb : w.heap.size ≤ gb
  ne : gr ≠ gb
section
variable {w : World} {g n c gr gb m A d : Nat} {B : Option Addr} {bs : List Int} {wr w' : World} {Q : List Nat}
set_option maxRecDepth 100000 in
theorem GS.up (I : GS w g B n c bs gr gb m wr A d Q) (hb : Up wr w') : GS w g B n c bs gr gb m w' A d Q :=
  ⟨I.cur.up hb, I.res.up hb, I.box.up hb, I.own.up hb, I.ok, gb_up I.gby hb, I.low, I.hgr, I.hgb, I.ne⟩
set_option maxRecDepth 100000 in
theorem GS.dr (I : GS w g B n c bs gr gb m wr A d Q) (hC : Cur w' g B n c bs) (hg : wr.grownBy w' (some g)) : GS w g B n c bs gr gb m w' A d Q :=
  ⟨hC, I.res.grown hg (fun e => by injection e with e; have := I.low; have := I.hgr; omega), I.box.grown hg (fun e => by injection e with e; have := I.low; have := I.hgb; omega), I.own.far_gb hg I.low, I.ok, gb_trans I.gby hg, I.low, I.hgr, I.hgb, I.ne⟩
set_option maxRecDepth 100000 in
theorem GS.put (I : GS w g B n c bs gr gb m wr A d Q) {A' d' : Nat} {Q' : List Nat} (hb : Up wr w') (ho : OwnI w' wr.heap.size (some ⟨A', 0, none⟩) m d' (ints Q')) (hq : GOk m Q') :
    GS w g B n c bs gr gb m ((w'.setCell ⟨gb, 0, none⟩ (.int .i64 m)).setCell ⟨gb, 1, none⟩ (.slice (some ⟨A', 0, none⟩) m d')) A' d' Q' := by
  have I2 := I.up hb
  have hlow := I.low
  have hgb := I.hgb
  have hgr := I.hgr
  have hne := I.ne
  have hs := I.gby.size
  have o1 := ho.other_store (i := 0) I2.box (by decide) (.int .i64 m)
  have o2 := o1.other_store (i := 1) (I2.box.set_ 0 (.int .i64 m)) (by decide) (.slice (some ⟨A', 0, none⟩) m d')
  exact ⟨(I2.cur.set (p := ⟨gb, 0, none⟩) (by show g < gb; omega) _).set (p := ⟨gb, 1, none⟩) (by show g < gb; omega) _, (I2.res.far (p := ⟨gb, 0, none⟩) hne _).far (p := ⟨gb, 1, none⟩) hne _, (I2.box.set_ 0 _).set_ 1 _, o2.more (by omega), hq,
    gb_set (gb_set I2.gby (p := ⟨gb, 0, none⟩) hgb _) (p := ⟨gb, 1, none⟩) hgb _, hlow, hgr, hgb, hne⟩
end
/-- What a drawn graph is: rows of the call's own. -/
def isGraphV (base m : Nat) (v : Value) (w' : World) : Prop := ∃ A d Q, v = .agg #[.int .i64 (m : Nat), .slice (some ⟨A, 0, none⟩) m d] ∧ GOk m Q ∧ OwnI w' base (some ⟨A, 0, none⟩) m d (ints Q)
set_option maxRecDepth 100000 in
set_option maxHeartbeats 1000000 in
theorem l2Random_any {g : Nat} {B : Option Addr} {n c : Nat} {bs : List Int} {w : World} (hC : Cur w g B n c bs) (m : Nat) (h1 : 1 ≤ m) (h7 : m ≤ 7) (odd : Int) :
    Calls Tryz.prog 157 #[.pointer (some ⟨g, 0, none⟩), .int .i64 (m : Nat), .int .i64 odd] w (Dr g B n c bs w fun v w' => isGraphV w.heap.size m v w') := by
  have hmk := make_ints m (by omega)
  have hlow := hC.lt
  have I0 : GS w g B n c bs w.heap.size (w.heap.size + 2) m (((w.alloc (.cells #[.int .i64 0, .slice none 0 0] 29)).alloc (.cells (zeros m) 3)).alloc (.cells #[.int .i64 m, .slice (some ⟨w.heap.size + 1, 0, none⟩) m m] 29)) (w.heap.size + 1) m (List.replicate m 0) := by
    have hz : Blk ((w.alloc (.cells #[.int .i64 0, .slice none 0 0] 29)).alloc (.cells (zeros m) 3)) (w.heap.size + 1) 3 (natCells (List.replicate m 0)) := by rw [natCells_zero]; exact Blk.new_at (by simp)
    have ho := (hz.alloc (.cells #[.int .i64 m, .slice (some ⟨w.heap.size + 1, 0, none⟩) m m] 29)).own (base := w.heap.size) (n := m) (by omega) (by rw [natCells_size]; simp) (by unfold maxLen; omega)
    have hu : Up w (((w.alloc (.cells #[.int .i64 0, .slice none 0 0] 29)).alloc (.cells (zeros m) 3)).alloc (.cells #[.int .i64 m, .slice (some ⟨w.heap.size + 1, 0, none⟩) m m] 29)) := by go_grown
    exact ⟨hC.up hu, ((Blk.new w _ _).alloc _).alloc _, Blk.new_at (by simp), by unfold OwnI; exact ho, GOk.empty h1 h7, gb_of_up _ hu, hlow, Nat.le_refl _, by omega, by omega⟩
  go_enter Tryz.func157, Tryz.ntmps157
  go_wp2_with fail
  have e2 : w.heap.size + 1 + 1 = w.heap.size + 2 := by omega
  rw [e2]
  clear e2 hmk
  obtain ⟨gr, hgr⟩ : ∃ gr, gr = w.heap.size := ⟨_, rfl⟩
  obtain ⟨gb, hgb⟩ : ∃ gb, gb = w.heap.size + 2 := ⟨_, rfl⟩
  obtain ⟨gs, hgs⟩ : ∃ gs, gs = w.heap.size + 1 := ⟨_, rfl⟩
  obtain ⟨W1, hW1⟩ : ∃ W1, W1 = (((w.alloc (.cells #[.int .i64 0, .slice none 0 0] 29)).alloc (.cells (zeros m) 3)).alloc (.cells #[.int .i64 m, .slice (some ⟨w.heap.size + 1, 0, none⟩) m m] 29)) := ⟨_, rfl⟩
  rw [← hW1] at I0
  rw [← hgb, ← hgs] at I0
  have I1 : GS w g B n c bs gr gb m W1 gs m (List.replicate m 0) := by rw [hgr]; exact I0
  rw [← hW1, ← hgb, ← hgs, ← hgr]
  clear I0 hW1 hgb hgs hgr hC hlow
  go_loopw [8] (fun v wr => ∃ (k : Nat) (A d : Nat) (Q : List Nat), k ≤ m ∧ v = .int .i64 k ∧ GS w g B n c bs gr gb m wr A d Q) (fun v _ => m - (intOf v).toNat)
  case atStart => exact ⟨0, _, _, _, Nat.zero_le _, rfl, I1⟩
  case round =>
    clear I1
    obtain ⟨k, A, d, Q, hk, rfl, I⟩ := hrel
    by_cases hkm : k < m
    · go_wp2
      go_loopw [9] (fun v wr => ∃ (j : Nat) (A d : Nat) (Q : List Nat), k < j ∧ j ≤ m ∧ v = .int .i64 j ∧ GS w g B n c bs gr gb m wr A d Q) (fun v _ => m - (intOf v).toNat)
      case atStart => exact ⟨k + 1, _, _, _, by omega, by omega, by go_num, I⟩
      case round =>
        clear I
        obtain ⟨j, A, d, Q, hkj, hj, rfl, I⟩ := hrel
        obtain ⟨wo, rfl⟩ : ∃ wo : World, wo = wr := ⟨_, rfl⟩
        by_cases hjm : j < m
        · go_wp2_with fail
          refine (l1Below_any I.cur 10 (by omega) (by omega)).mono ?_
          rintro e w2 ⟨v, rfl, ⟨x, rfl, hx⟩, hC2, hg2⟩
          replace I := I.dr hC2 hg2
          clear hC2 hg2
          by_cases hodd : (x : Int) < odd
          · have hy := I.box.two
            have hfz := I.box.frozen
            have hf0 := hfz 0
            have hf1 := hfz 1
            clear hfz
            go_wp2_with fail
            refine (addEdge_graph ⟨A, 0, none⟩ m d k j Q w2 I.own.ri I.ok hkm hjm).mono ?_
            rintro e w3 ⟨A', d', Q', b, rfl, hq, ho, hb⟩
            have I3 := I.put hb ho hq
            have I2 := I.up hb
            clear hy hf0 hf1 I ho
            have hy := I2.box.two
            have hfz := I2.box.frozen
            have hf0 := hfz 0
            have hf1 := hfz 1
            clear hfz
            go_wp2
            go_roundw
            case rel => exact ⟨j + 1, A', d', Q', by omega, by omega, by go_num, I3⟩
            case measure => simp [intOf]; omega
          · go_wp2
            go_roundw
            case rel => exact ⟨j + 1, A, d, Q, by omega, by omega, by go_num, I⟩
            case measure => simp [intOf]; omega
        · obtain rfl : j = m := by omega
          go_wp2
          go_roundw
          case rel => exact ⟨k + 1, A, d, Q, by omega, by go_num, I⟩
          case measure => simp [intOf]; omega
    · obtain rfl : k = m := by omega
      have hy := I.box.two
      have hfz := I.res.frozen
      have hf0 := hfz 0
      have hf1 := hfz 1
      clear hfz
      have hyr := I.res.two
      have hgr := I.hgr
      have hlow := I.low
      have hfin := ((I.res.set_ 0 (.int .i64 (k : Nat))).set_ 1 (.slice (some ⟨A, 0, none⟩) k d)).two
      have o2 := (I.own.other_store (i := 0) I.res (by decide) (.int .i64 (k : Nat))).other_store (i := 1) (I.res.set_ 0 (.int .i64 (k : Nat))) (by decide) (.slice (some ⟨A, 0, none⟩) k d)
      have hC2 := (I.cur.set (p := ⟨gr, 0, none⟩) (by show g < gr; omega) (.int .i64 (k : Nat))).set (p := ⟨gr, 1, none⟩) (by show g < gr; omega) (.slice (some ⟨A, 0, none⟩) k d)
      have hg2 := gb_set (gb_set I.gby (p := ⟨gr, 0, none⟩) hgr (.int .i64 (k : Nat))) (p := ⟨gr, 1, none⟩) hgr (.slice (some ⟨A, 0, none⟩) k d)
      have hq := I.ok
      clear I
      go_wp2
      generalize (wr.setCell ⟨gr, 0, none⟩ (.int .i64 (k : Nat))).setCell ⟨gr, 1, none⟩ (.slice (some ⟨A, 0, none⟩) k d) = Wf at hfin o2 hC2 hg2 ⊢
      refine bodyPost_ret (v := .agg #[.int .i64 (k : Nat), .slice (some ⟨A, 0, none⟩) k d]) ?_ rfl ?_
      · simp [results, Tryz.results157, go_sem, hfin]
      exact ⟨_, rfl, ⟨A, d, Q, rfl, hq, o2⟩, hC2, hg2⟩
set_option maxRecDepth 100000 in
theorem l1Pick_any {g : Nat} {B : Option Addr} {n c : Nat} {bs : List Int} {w : World} (hC : Cur w g B n c bs) {h m d : Nat} {ss : Nat → ByteArray} (hS : ∀ j, j < m → w.cell? ⟨h, j, none⟩ = some (.string (ss j))) (hh : h < w.heap.size) (hne : h ≠ g) (h0 : 1 ≤ m) (hm : m ≤ 256) :
    Calls Tryz.prog 156 #[.pointer (some ⟨g, 0, none⟩), .slice (some ⟨h, 0, none⟩) m d] w (Dr g B n c bs w fun v _ => ∃ j, j < m ∧ v = .string (ss j)) := by
  go_enter Tryz.func156, Tryz.ntmps156
  go_wp2_with fail
  refine (l1Below_any hC m h0 hm).mono ?_
  rintro e w1 ⟨v, rfl, ⟨x, rfl, hx⟩, hC1, hg1⟩
  have hc : w1.cell? ⟨h, x, none⟩ = some (.string (ss x)) := by rw [← hS x hx]; exact hg1.cell_far _ hh (by simpa using hne)
  go_wp2
  go_ret
  exact ⟨_, rfl, ⟨x, hx, rfl⟩, hC1, hg1⟩
/-- The five names that are drawn. -/
def gname (j : Nat) : ByteArray := match j with
  | 0 => ⟨#[112, 97, 116, 104]⟩
  | 1 => ⟨#[99, 121, 99, 108, 101]⟩
  | 2 => ⟨#[99, 111, 109, 112, 108, 101, 116, 101]⟩
  | 3 => ⟨#[115, 116, 97, 114]⟩
  | _ => ⟨#[119, 104, 101, 101, 108]⟩
/-- A graph in a box, no cursor in sight. -/
structure GN (w : World) (gr gb m : Nat) (wr : World) (A d : Nat) (Q : List Nat) : Prop where
  res : Blk wr gr 29 #[.int .i64 0, .slice none 0 0]
  box : Blk wr gb 29 #[.int .i64 m, .slice (some ⟨A, 0, none⟩) m d]
  own : OwnI wr w.heap.size (some ⟨A, 0, none⟩) m d (ints Q)
  ok : GOk m Q
  bel : Below w.heap.size w wr
  hgr : w.heap.size ≤ gr
  hgb : w.heap.size ≤ gb
  ne : gr ≠ gb
section
variable {w : World} {gr gb m A d : Nat} {wr w' : World} {Q : List Nat}
set_option maxRecDepth 100000 in
theorem GN.up (I : GN w gr gb m wr A d Q) (hb : Up wr w') : GN w gr gb m w' A d Q :=
  ⟨I.res.up hb, I.box.up hb, I.own.up hb, I.ok, Up.then_ I.bel hb, I.hgr, I.hgb, I.ne⟩
set_option maxRecDepth 100000 in
theorem GN.put (I : GN w gr gb m wr A d Q) {A' d' : Nat} {Q' : List Nat} (hb : Up wr w') (ho : OwnI w' wr.heap.size (some ⟨A', 0, none⟩) m d' (ints Q')) (hq : GOk m Q') :
    GN w gr gb m ((w'.setCell ⟨gb, 0, none⟩ (.int .i64 m)).setCell ⟨gb, 1, none⟩ (.slice (some ⟨A', 0, none⟩) m d')) A' d' Q' := by
  have I2 := I.up hb
  have hgb := I.hgb
  have hgr := I.hgr
  have hne := I.ne
  have hs := I.bel.size
  have o1 := ho.other_store (i := 0) I2.box (by decide) (.int .i64 m)
  have o2 := o1.other_store (i := 1) (I2.box.set_ 0 (.int .i64 m)) (by decide) (.slice (some ⟨A', 0, none⟩) m d')
  exact ⟨(I2.res.far (p := ⟨gb, 0, none⟩) hne _).far (p := ⟨gb, 1, none⟩) hne _, (I2.box.set_ 0 _).set_ 1 _, o2.more (by omega), hq,
    (I2.bel.setCell (p := ⟨gb, 0, none⟩) hgb _).setCell (p := ⟨gb, 1, none⟩) hgb _, hgr, hgb, hne⟩
end
set_option maxRecDepth 100000 in
set_option maxHeartbeats 4000000 in
theorem namedGraph_any (nm : Nat) (hnm : nm < 5) (m : Nat) (h1 : 1 ≤ m) (h7 : m ≤ 7) (w : World) :
    Calls Tryz.prog 155 #[.string (gname nm), .int .i64 (m : Nat)] w fun e w' => ∃ A d Q, e = .returned (.tuple #[.agg #[.int .i64 (m : Nat), .slice (some ⟨A, 0, none⟩) m d], .bool true]) ∧ GOk m Q ∧ OwnI w' w.heap.size (some ⟨A, 0, none⟩) m d (ints Q) ∧ Below w.heap.size w w' := by
  obtain ⟨s, hs⟩ : ∃ s, s = gname nm := ⟨_, rfl⟩
  have HS := Lib.hid (show s = ⟨#[112, 97, 116, 104]⟩ ∨ s = ⟨#[99, 121, 99, 108, 101]⟩ ∨ s = ⟨#[99, 111, 109, 112, 108, 101, 116, 101]⟩ ∨ s = ⟨#[115, 116, 97, 114]⟩ ∨ s = ⟨#[119, 104, 101, 101, 108]⟩ by
    rw [hs]
    match nm, hnm with
    | 0, _ => exact .inl rfl
    | 1, _ => exact .inr (.inl rfl)
    | 2, _ => exact .inr (.inr (.inl rfl))
    | 3, _ => exact .inr (.inr (.inr (.inl rfl)))
    | 4, _ => exact .inr (.inr (.inr (.inr rfl))))
  rw [← hs]
  clear hs hnm
  have hmk := make_ints m (by omega)
  have key : ∀ w0 : World, w0.heap.size = w.heap.size + 1 → Below w.heap.size w w0 → Blk w0 w.heap.size 29 #[.int .i64 0, .slice none 0 0] → GN w w.heap.size (w.heap.size + 2) m ((w0.alloc (.cells (zeros m) 3)).alloc (.cells #[.int .i64 m, .slice (some ⟨w.heap.size + 1, 0, none⟩) m m] 29)) (w.heap.size + 1) m (List.replicate m 0) := fun w0 hsz hb hk => by
    have hz : Blk (w0.alloc (.cells (zeros m) 3)) (w.heap.size + 1) 3 (natCells (List.replicate m 0)) := by rw [natCells_zero]; exact Blk.new_at hsz
    have ho := (hz.alloc (.cells #[.int .i64 m, .slice (some ⟨w.heap.size + 1, 0, none⟩) m m] 29)).own (base := w.heap.size) (n := m) (by omega) (by rw [natCells_size]; simp) (by unfold maxLen; omega)
    exact ⟨(hk.alloc _).alloc _, Blk.new_at (by simp; omega), by unfold OwnI; exact ho, GOk.empty h1 h7, (hb.alloc (by omega) _).alloc (by simp; omega) _, Nat.le_refl _, by omega, by omega⟩
  have hk0 := Blk.new w 29 #[.int .i64 0, .slice none 0 0]
  have hb0 : Below w.heap.size w (w.alloc (.cells #[.int .i64 0, .slice none 0 0] 29)) := by go_grown
  go_enter Tryz.func155, Tryz.ntmps155
  go_wp2_with fail
  refine (l1In_yes _ _ _ _ (by omega)).mono ?_
  rintro e w0' ⟨rfl, rfl⟩
  have I0 := key _ (by simp) hb0 hk0
  clear key hb0 hk0
  go_wp2_with fail
  have e2 : w.heap.size + 1 + 1 = w.heap.size + 2 := by omega
  rw [e2]
  clear e2 hmk
  obtain ⟨gr, hgr⟩ : ∃ gr, gr = w.heap.size := ⟨_, rfl⟩
  obtain ⟨gb, hgb⟩ : ∃ gb, gb = w.heap.size + 2 := ⟨_, rfl⟩
  obtain ⟨gs, hgs⟩ : ∃ gs, gs = w.heap.size + 1 := ⟨_, rfl⟩
  obtain ⟨W1, hW1⟩ : ∃ W1, W1 = (((w.alloc (.cells #[.int .i64 0, .slice none 0 0] 29)).alloc (.cells (zeros m) 3)).alloc (.cells #[.int .i64 m, .slice (some ⟨w.heap.size + 1, 0, none⟩) m m] 29)) := ⟨_, rfl⟩
  rw [← hW1] at I0
  rw [← hgb, ← hgs] at I0
  have I1 : GN w gr gb m W1 gs m (List.replicate m 0) := by rw [hgr]; exact I0
  rw [← hW1, ← hgb, ← hgs, ← hgr]
  clear I0 hW1 hgb hgs hgr
  go_loopw [7] (fun v wr => ∃ (k : Nat) (A d : Nat) (Q : List Nat), k ≤ m ∧ v = .int .i64 k ∧ GN w gr gb m wr A d Q) (fun v _ => m - (intOf v).toNat)
  case atStart => exact ⟨0, _, _, _, Nat.zero_le _, rfl, I1⟩
  case round =>
    clear I1
    obtain ⟨k, A, d, Q, hk, rfl, I⟩ := hrel
    by_cases hkm : k < m
    · have hk3 : k = 0 ∨ k = 1 ∨ 2 ≤ k := by omega
      rcases hk3 with rfl | rfl | hk2
      · rw [show ((0 : Nat) : Int) = 0 from rfl]
        go_wp2
        go_loopw [8] (fun v wr => ∃ (j : Nat) (A d : Nat) (Q : List Nat), 0 < j ∧ j ≤ m ∧ v = .int .i64 j ∧ GN w gr gb m wr A d Q) (fun v _ => m - (intOf v).toNat)
        case atStart => exact ⟨0 + 1, _, _, _, by omega, by omega, by first | rfl | go_num, I⟩
        case round =>
          clear I
          obtain ⟨j, A, d, Q, hkj, hj, rfl, I⟩ := hrel
          obtain ⟨wo, rfl⟩ : ∃ wo : World, wo = wr := ⟨_, rfl⟩
          by_cases hjm : j < m
          · have hy := I.box.two
            have hfz := I.box.frozen
            have hf0 := hfz 0
            have hf1 := hfz 1
            clear hfz
            have hadd := addEdge_graph ⟨A, 0, none⟩ m d 0 j Q wo I.own.ri I.ok hkm hjm
            by_cases hjk : j = 0 + 1
            · subst hjk
              rcases HS.out with rfl | rfl | rfl | rfl | rfl
              all_goals
                clear HS
                have Hadd := Lib.hid hadd
                clear hadd
                go_wp2_with fail
                all_goals first
                  | (refine ⟨⟨0 + 2, A, d, Q, by omega, by omega, by first | rfl | go_num, I⟩, by simp [intOf]; omega⟩)
                  | (refine Hadd.out.mono ?_; rintro e w3 ⟨A', d', Q', b, rfl, hq, ho, hb⟩; have I3 := I.put hb ho hq; have I2 := I.up hb; clear hy hf0 hf1 I ho Hadd; have hy := I2.box.two; have hfz := I2.box.frozen; have hf0 := hfz 0; have hf1 := hfz 1; clear hfz; go_wp2; go_roundw; (case rel => exact ⟨0 + 2, A', d', Q', by omega, by omega, by first | rfl | go_num, I3⟩); (case measure => simp [intOf]; omega))
            · have hjb : ((j : Int) == ((0 : Nat) : Int) + 1) = false := by rw [beq_eq_false_iff_ne]; omega
              rcases HS.out with rfl | rfl | rfl | rfl | rfl
              all_goals
                clear HS
                have Hadd := Lib.hid hadd
                clear hadd
                go_wp2_with fail
                all_goals first
                  | (refine ⟨⟨j + 1, A, d, Q, by omega, by omega, by go_num, I⟩, by simp [intOf]; omega⟩)
                  | (refine Hadd.out.mono ?_; rintro e w3 ⟨A', d', Q', b, rfl, hq, ho, hb⟩; have I3 := I.put hb ho hq; have I2 := I.up hb; clear hy hf0 hf1 I ho Hadd; have hy := I2.box.two; have hfz := I2.box.frozen; have hf0 := hfz 0; have hf1 := hfz 1; clear hfz; go_wp2; go_roundw; (case rel => exact ⟨j + 1, A', d', Q', by omega, by omega, by go_num, I3⟩); (case measure => simp [intOf]; omega))
          · obtain rfl : j = m := by omega
            go_wp2
            go_roundw
            case rel => exact ⟨0 + 1, A, d, Q, by omega, by first | rfl | go_num, I⟩
            case measure => simp [intOf]; omega
      · have h1m : decide ((1 : Int) < (m : Int)) = true := decide_eq_true (by omega)
        rw [show ((1 : Nat) : Int) = 1 from rfl]
        go_wp2
        go_loopw [8] (fun v wr => ∃ (j : Nat) (A d : Nat) (Q : List Nat), 1 < j ∧ j ≤ m ∧ v = .int .i64 j ∧ GN w gr gb m wr A d Q) (fun v _ => m - (intOf v).toNat)
        case atStart => exact ⟨1 + 1, _, _, _, by omega, by omega, by first | rfl | go_num, I⟩
        case round =>
          clear I
          obtain ⟨j, A, d, Q, hkj, hj, rfl, I⟩ := hrel
          obtain ⟨wo, rfl⟩ : ∃ wo : World, wo = wr := ⟨_, rfl⟩
          by_cases hjm : j < m
          · have hy := I.box.two
            have hfz := I.box.frozen
            have hf0 := hfz 0
            have hf1 := hfz 1
            clear hfz
            have hadd := addEdge_graph ⟨A, 0, none⟩ m d 1 j Q wo I.own.ri I.ok hkm hjm
            by_cases hjk : j = 1 + 1
            · subst hjk
              rcases HS.out with rfl | rfl | rfl | rfl | rfl
              all_goals
                clear HS
                have Hadd := Lib.hid hadd
                clear hadd
                go_wp2_with fail
                all_goals first
                  | (refine ⟨⟨1 + 2, A, d, Q, by omega, by omega, by first | rfl | go_num, I⟩, by simp [intOf]; omega⟩)
                  | (refine Hadd.out.mono ?_; rintro e w3 ⟨A', d', Q', b, rfl, hq, ho, hb⟩; have I3 := I.put hb ho hq; have I2 := I.up hb; clear hy hf0 hf1 I ho Hadd; have hy := I2.box.two; have hfz := I2.box.frozen; have hf0 := hfz 0; have hf1 := hfz 1; clear hfz; go_wp2; go_roundw; (case rel => exact ⟨1 + 2, A', d', Q', by omega, by omega, by first | rfl | go_num, I3⟩); (case measure => simp [intOf]; omega))
            · have hjb : ((j : Int) == ((1 : Nat) : Int) + 1) = false := by rw [beq_eq_false_iff_ne]; omega
              rcases HS.out with rfl | rfl | rfl | rfl | rfl
              all_goals
                clear HS
                have Hadd := Lib.hid hadd
                clear hadd
                go_wp2_with fail
                all_goals first
                  | (refine ⟨⟨j + 1, A, d, Q, by omega, by omega, by go_num, I⟩, by simp [intOf]; omega⟩)
                  | (refine Hadd.out.mono ?_; rintro e w3 ⟨A', d', Q', b, rfl, hq, ho, hb⟩; have I3 := I.put hb ho hq; have I2 := I.up hb; clear hy hf0 hf1 I ho Hadd; have hy := I2.box.two; have hfz := I2.box.frozen; have hf0 := hfz 0; have hf1 := hfz 1; clear hfz; go_wp2; go_roundw; (case rel => exact ⟨j + 1, A', d', Q', by omega, by omega, by go_num, I3⟩); (case measure => simp [intOf]; omega))
          · obtain rfl : j = m := by omega
            go_wp2
            go_roundw
            case rel => exact ⟨1 + 1, A, d, Q, by omega, by first | rfl | go_num, I⟩
            case measure => simp [intOf]; omega
      · have hk0 : ((k : Int) == 0) = false := by rw [beq_eq_false_iff_ne]; omega
        have hk1 : ((k : Int) == 1) = false := by rw [beq_eq_false_iff_ne]; omega
        go_wp2
        go_loopw [8] (fun v wr => ∃ (j : Nat) (A d : Nat) (Q : List Nat), k < j ∧ j ≤ m ∧ v = .int .i64 j ∧ GN w gr gb m wr A d Q) (fun v _ => m - (intOf v).toNat)
        case atStart => exact ⟨k + 1, _, _, _, by omega, by omega, by first | rfl | go_num, I⟩
        case round =>
          clear I
          obtain ⟨j, A, d, Q, hkj, hj, rfl, I⟩ := hrel
          obtain ⟨wo, rfl⟩ : ∃ wo : World, wo = wr := ⟨_, rfl⟩
          by_cases hjm : j < m
          · have hy := I.box.two
            have hfz := I.box.frozen
            have hf0 := hfz 0
            have hf1 := hfz 1
            clear hfz
            have hadd := addEdge_graph ⟨A, 0, none⟩ m d k j Q wo I.own.ri I.ok hkm hjm
            by_cases hjk : j = k + 1
            · subst hjk
              rcases HS.out with rfl | rfl | rfl | rfl | rfl
              all_goals
                clear HS
                have Hadd := Lib.hid hadd
                clear hadd
                go_wp2_with fail
                all_goals first
                  | (refine ⟨⟨k + 2, A, d, Q, by omega, by omega, by first | rfl | go_num, I⟩, by simp [intOf]; omega⟩)
                  | (refine Hadd.out.mono ?_; rintro e w3 ⟨A', d', Q', b, rfl, hq, ho, hb⟩; have I3 := I.put hb ho hq; have I2 := I.up hb; clear hy hf0 hf1 I ho Hadd; have hy := I2.box.two; have hfz := I2.box.frozen; have hf0 := hfz 0; have hf1 := hfz 1; clear hfz; go_wp2; go_roundw; (case rel => exact ⟨k + 2, A', d', Q', by omega, by omega, by first | rfl | go_num, I3⟩); (case measure => simp [intOf]; omega))
            · have hjb : ((j : Int) == ((k : Nat) : Int) + 1) = false := by rw [beq_eq_false_iff_ne]; omega
              rcases HS.out with rfl | rfl | rfl | rfl | rfl
              all_goals
                clear HS
                have Hadd := Lib.hid hadd
                clear hadd
                go_wp2_with fail
                all_goals first
                  | (refine ⟨⟨j + 1, A, d, Q, by omega, by omega, by go_num, I⟩, by simp [intOf]; omega⟩)
                  | (refine Hadd.out.mono ?_; rintro e w3 ⟨A', d', Q', b, rfl, hq, ho, hb⟩; have I3 := I.put hb ho hq; have I2 := I.up hb; clear hy hf0 hf1 I ho Hadd; have hy := I2.box.two; have hfz := I2.box.frozen; have hf0 := hfz 0; have hf1 := hfz 1; clear hfz; go_wp2; go_roundw; (case rel => exact ⟨j + 1, A', d', Q', by omega, by omega, by go_num, I3⟩); (case measure => simp [intOf]; omega))
          · obtain rfl : j = m := by omega
            go_wp2
            go_roundw
            case rel => exact ⟨k + 1, A, d, Q, by omega, by first | rfl | go_num, I⟩
            case measure => simp [intOf]; omega
    · obtain rfl : k = m := by omega
      have hy := I.box.two
      have hfz := I.res.frozen
      have hf0 := hfz 0
      have hf1 := hfz 1
      clear hfz
      have hyr := I.res.two
      have hgr := I.hgr
      have hfin := ((I.res.set_ 0 (.int .i64 (k : Nat))).set_ 1 (.slice (some ⟨A, 0, none⟩) k d)).two
      have o2 := (I.own.other_store (i := 0) I.res (by decide) (.int .i64 (k : Nat))).other_store (i := 1) (I.res.set_ 0 (.int .i64 (k : Nat))) (by decide) (.slice (some ⟨A, 0, none⟩) k d)
      have hb2 := (I.bel.setCell (p := ⟨gr, 0, none⟩) hgr (.int .i64 (k : Nat))).setCell (p := ⟨gr, 1, none⟩) hgr (.slice (some ⟨A, 0, none⟩) k d)
      have hq := I.ok
      clear I
      rcases HS.out with rfl | rfl | rfl | rfl | rfl
      all_goals
        clear HS
        go_wp2
        all_goals first
          | (generalize (wr.setCell ⟨gr, 0, none⟩ (.int .i64 (k : Nat))).setCell ⟨gr, 1, none⟩ (.slice (some ⟨A, 0, none⟩) k d) = Wf at hfin o2 hb2 ⊢; (refine bodyPost_ret (v := .tuple #[.agg #[.int .i64 (k : Nat), .slice (some ⟨A, 0, none⟩) k d], .bool true]) ?_ rfl ?_); (· simp [results, Tryz.results155, go_sem, hfin]); exact ⟨A, d, Q, rfl, hq, o2, hb2⟩)
          | (obtain rfl : k = 1 := by omega
             change bodyPost _ _ _ _ _ ((wr.setCell ⟨gr, 0, none⟩ (.int .i64 ((1 : Nat) : Int))).setCell ⟨gr, 1, none⟩ (.slice (some ⟨A, 0, none⟩) 1 d))
             generalize (wr.setCell ⟨gr, 0, none⟩ (.int .i64 ((1 : Nat) : Int))).setCell ⟨gr, 1, none⟩ (.slice (some ⟨A, 0, none⟩) 1 d) = Wf at hfin o2 hb2 ⊢; (refine bodyPost_ret (v := .tuple #[.agg #[.int .i64 ((1 : Nat) : Int), .slice (some ⟨A, 0, none⟩) 1 d], .bool true]) ?_ rfl ?_); (· simp [results, Tryz.results155, go_sem, hfin]); exact ⟨A, d, Q, rfl, hq, o2, hb2⟩)
end Go.Proofs.YthncdjcmlpiebaaGreatDoor
namespace Go.Proofs.YthncdjcmlpiebaaGreatDoor
open Go.RowKit
set_option maxRecDepth 100000 in
/-- A row of the call's own is not the box of a number that it does not hold. -/
theorem OwnI.ne_one {w : World} {base n c b : Nat} {A : Option Addr} {xs : List Int} {z : Int} (h : OwnI w base A n c xs) (hb : Blk w b 3 #[.int .i64 z]) (hne : xs ≠ []) (hz : xs ≠ [z]) : (Value.slice A n c).ownBlock ≠ some b := by
  intro e
  have hl := h.len
  rcases h.2 with ⟨hv, h0⟩ | ⟨g, cap, cur, hv, _, hg, h1, _, hs, ht⟩
  · rw [hv] at e; cases e
  · rw [hv] at e
    obtain rfl : g = b := by simpa [Value.ownBlock] using e
    rw [hb] at hg
    obtain rfl : #[Value.int .i64 z] = cur := by injection hg with hg; injection hg
    have hn : n = 1 := by
      have : 0 < xs.length := List.length_pos_iff.2 hne
      simp at hs
      omega
    subst hn
    have : xs.map (Value.int .i64) = [z].map (Value.int .i64) := by rw [← ht]; simp
    rcases xs with _ | ⟨x, _ | ⟨y, t⟩⟩
    · exact hne rfl
    · simp at this
      exact hz (by rw [this])
    · simp at hl
set_option maxRecDepth 100000 in
theorem implClq_is {A : Option Addr} {n c s : Nat} {Q : List Nat} {w : World} {b : Bool} (hX : RI w A n (ints Q)) (h : GOk n Q) (hs : s < 2 ^ n) (hb : clq Q s = b) :
    Calls Tryz.prog 130 #[.agg #[.int .i64 n, .slice A n c], .int .i64 s] w fun e w' => e = .returned (.bool b) ∧ Below w.heap.size w w' := by
  subst hb; exact implClq_any A n c s Q w hX h hs
set_option maxRecDepth 100000 in
theorem specClq_is {A : Option Addr} {n c s : Nat} {Q : List Nat} {w : World} {b : Bool} (hX : RI w A n (ints Q)) (h : GOk n Q) (hs : s < 2 ^ n) (hb : clq Q s = b) :
    Calls Tryz.prog 120 #[.agg #[.int .i64 n, .slice A n c], .int .i64 s] w fun e w' => e = .returned (.bool b) ∧ Below w.heap.size w w' := by
  subst hb; exact specIsClique_ok hX h hs
set_option maxRecDepth 100000 in
theorem and_lt {a b k : Nat} (h : a < 2 ^ k) : a &&& b < 2 ^ k := Nat.lt_of_le_of_lt Nat.and_le_left h
set_option maxRecDepth 100000 in
set_option maxHeartbeats 1000000 in
theorem elim1_any (a : Addr) (n c bG bL L v : Nat) (Q : List Nat) (w : World) (hX : RI w (some a) n (ints Q)) (h : GOk n Q) (hG : Blk w bG 29 #[.int .i64 n, .slice (some a) n c]) (hL : Blk w bL 3 #[.int .i64 L]) (hLn : L < 2 ^ n) (hv : v < n) :
    Calls Tryz.prog 149 #[.int .i64 v, .pointer (some ⟨bG, 0, none⟩), .pointer (some ⟨bL, 0, none⟩)] w fun e w' => e = .returned (.bool (spl Q L v)) ∧ Below w.heap.size w w' := by
  have hyb := hG.two
  have hlb := hG.lt
  have hy1 := hL.one
  have hl1 := hL.lt
  have hand := i64_and7 (h.nb7 v) (h.n7 hLn)
  have hcv := hX.nbs hv
  have habs : a.block < w.heap.size := by obtain ⟨_, e, h1, _⟩ := hX.addr h.pos; injection e with e; subst e; exact h1
  have HS := Lib.hid (show clq Q (nb Q v &&& L) = spl Q L v from rfl)
  have hlt : nb Q v &&& L < 2 ^ n := and_lt (h.lt v)
  have H := Lib.hid hlt
  clear hlt
  obtain ⟨b, hb⟩ : ∃ b, b = spl Q L v := ⟨_, rfl⟩
  rw [← hb] at HS ⊢
  clear hb
  go_enter Tryz.func149, Tryz.ntmps149
  go_wp2
  have hV0 : Up w w.drew := (Up.refl _).drew
  refine wp_region_calm (S := (fun w' => Up w w' ∧ (∀ b o, b < w.heap.size → w'.cell? ⟨b, o, none⟩ = w.cell? ⟨b, o, none⟩) ∧ w'.cell? (a.add v) = some (.int .i64 (nb Q v)))) (by kernel_rfl) (by kernel_rfl) (by exact ⟨hV0, fun _ _ hb => hV0.cell hb, (hV0.cell (by first | assumption | (rw [block_of_add]; assumption))).trans (by assumption)⟩) ?_
  repeat (first | (refine CalmSeq.cons undef (Calm.off (by rfl)) ?_; (try simp only [Act.put, List.setIfInBounds_toArray, List.set_cons_zero, List.set_cons_succ])) | (refine CalmSeq.cons ?_ (Calm.val (by rfl) ?_) ?_; rotate_left; (intro wC hSw; (try dsimp only at hSw); go_simp; done); (try simp only [Act.put, List.setIfInBounds_toArray, List.set_cons_zero, List.set_cons_succ])) | (refine CalmSeq.cons ?_ (Calm.val (by rfl) ?_) ?_; rotate_left; (intro wC hSw; (try dsimp only at hSw); go_simp; with_reducible rfl); (try simp only [Act.put, List.setIfInBounds_toArray, List.set_cons_zero, List.set_cons_succ])) | ((refine CalmSeq.cons ?_ (Calm.call (f := ?_) (args := ?_) (by rfl) ?_ (fun wC hSw => ?_)) ?_; rotate_left 3; (intro wC; go_simp; (refine ⟨?_, ?_⟩ <;> with_reducible rfl)); (go_at_call 130; (with_reducible refine (implClq_is (hX.up hSw.1) h H.out HS.out).mono ?_); rintro e wD ⟨rfl, hbD⟩; apply And.intro; (with_reducible rfl); (have hUD := Up.then_ hSw.1 hbD; exact ⟨hUD, fun _ _ hb => hUD.cell hb, (hUD.cell (by first | assumption | (rw [block_of_add]; assumption))).trans (by assumption)⟩))); (try simp only [Act.put, List.setIfInBounds_toArray, List.set_cons_zero, List.set_cons_succ])))
  intro w1 hS1
  have hU1 : Up w w1 := hS1.1
  clear hS1 hV0
  go_wp2
  go_ret
  exact ⟨rfl, hU1⟩
set_option maxRecDepth 100000 in
set_option maxHeartbeats 1000000 in
theorem l6Simplicial_any (A : Option Addr) (n c L v : Nat) (Q : List Nat) (w : World) (hX : RI w A n (ints Q)) (h : GOk n Q) (hLn : L < 2 ^ n) (hv : v < n) :
    Calls Tryz.prog 133 #[.agg #[.int .i64 n, .slice A n c], .int .i64 v, .int .i64 L] w fun e w' => e = .returned (.bool (spl Q L v)) ∧ Below w.heap.size w w' := by
  have hand := i64_and7 (h.nb7 v) (h.n7 hLn)
  obtain ⟨a, rfl, habs, _⟩ := hX.addr h.pos
  have hcv := hX.nbs hv
  have HS := Lib.hid (show clq Q (nb Q v &&& L) = spl Q L v from rfl)
  have H := Lib.hid (show nb Q v &&& L < 2 ^ n from and_lt (h.lt v))
  obtain ⟨b, hb⟩ : ∃ b, b = spl Q L v := ⟨_, rfl⟩
  rw [← hb] at HS ⊢
  clear hb
  go_enter Tryz.func133, Tryz.ntmps133
  go_wp2_with fail
  obtain ⟨w0, hw0⟩ : ∃ w0, w0 = w.alloc (.cells #[.int .i64 n, .slice (some a) n c] 29) := ⟨_, rfl⟩
  have hG : Blk w0 w.heap.size 29 #[.int .i64 n, .slice (some a) n c] := by rw [hw0]; exact Blk.new _ _ _
  have hU0 : Up w w0 := by rw [hw0]; go_grown
  rw [← hw0]
  clear hw0
  have hyb := hG.two
  have hlb := hG.lt
  replace hcv := (hU0.cell (p := a.add v) (by rw [block_of_add]; exact habs)).trans hcv
  replace hX := hX.up hU0
  replace habs := Nat.lt_of_lt_of_le habs hU0.size
  go_wp2
  have hV0 : Up w0 w0.drew := (Up.refl _).drew
  refine wp_region_calm (S := (fun w' => Up w0 w' ∧ (∀ b o, b < w0.heap.size → w'.cell? ⟨b, o, none⟩ = w0.cell? ⟨b, o, none⟩) ∧ w'.cell? (a.add v) = some (.int .i64 (nb Q v)))) (by kernel_rfl) (by kernel_rfl) (by exact ⟨hV0, fun _ _ hb => hV0.cell hb, (hV0.cell (by first | assumption | (rw [block_of_add]; assumption))).trans (by assumption)⟩) ?_
  repeat (first | (refine CalmSeq.cons undef (Calm.off (by rfl)) ?_; (try simp only [Act.put, List.setIfInBounds_toArray, List.set_cons_zero, List.set_cons_succ])) | (refine CalmSeq.cons ?_ (Calm.val (by rfl) ?_) ?_; rotate_left; (intro wC hSw; (try dsimp only at hSw); go_simp; done); (try simp only [Act.put, List.setIfInBounds_toArray, List.set_cons_zero, List.set_cons_succ])) | (refine CalmSeq.cons ?_ (Calm.val (by rfl) ?_) ?_; rotate_left; (intro wC hSw; (try dsimp only at hSw); go_simp; with_reducible rfl); (try simp only [Act.put, List.setIfInBounds_toArray, List.set_cons_zero, List.set_cons_succ])) | ((refine CalmSeq.cons ?_ (Calm.call (f := ?_) (args := ?_) (by rfl) ?_ (fun wC hSw => ?_)) ?_; rotate_left 3; (intro wC; go_simp; (refine ⟨?_, ?_⟩ <;> with_reducible rfl)); (go_at_call 120; (with_reducible refine (specClq_is (hX.up hSw.1) h H.out HS.out).mono ?_); rintro e wD ⟨rfl, hbD⟩; apply And.intro; (with_reducible rfl); (have hUD := Up.then_ hSw.1 hbD; exact ⟨hUD, fun _ _ hb => hUD.cell hb, (hUD.cell (by first | assumption | (rw [block_of_add]; assumption))).trans (by assumption)⟩))); (try simp only [Act.put, List.setIfInBounds_toArray, List.set_cons_zero, List.set_cons_succ])))
  intro w1 hS1
  have hU1 : Up w0 w1 := hS1.1
  clear hS1 hV0
  go_wp2
  go_ret
  exact ⟨rfl, Up.then_ hU0 hU1⟩
set_option maxRecDepth 100000 in
theorem slIndexFunc_is {f : FuncId} {caps : Array Value} (p : Int → Bool) {z : Int} {A : Option Addr} {n c : Nat} {xs : List Int} {w : World} (hz : idxF p xs = z) (hA : RI w A n xs) (hn : n ≤ 9223372036854775807) (he : EntersF f)
    (hp : ∀ j, j < n → ∀ w', Up w w' → Calls Tryz.prog f (#[.int .i64 (xs.getD j 0)] ++ caps) w' fun e w'' => e = .returned (.bool (p (xs.getD j 0))) ∧ Below w'.heap.size w' w'') :
    Calls Tryz.prog 113 #[.slice A n c, .func (.func f) #[] caps] w fun e w' => e = .returned (.int .i64 z) ∧ Below w.heap.size w w' := by
  subst hz; exact slIndexFunc_any f caps p A n c xs w hA hn he hp
set_option maxRecDepth 100000 in
theorem implListOf_out {s : Nat} {w : World} (hs : s < 128) : Calls Tryz.prog 86 #[.int .i64 s] w fun e w' => ∃ B d, e = .returned (.slice B (listOf s).length d) ∧ OwnI w' w.heap.size B (listOf s).length d (ints (listOf s)) ∧ Below w.heap.size w w' :=
  (implListOf_any s w hs).mono fun _ _ h => h.out
set_option maxRecDepth 100000 in
set_option maxHeartbeats 4000000 in
theorem implEliminationOf_any (N : Int) (A : Option Addr) (n c : Nat) (X : List Int) (w : World) (hX : RI w A n X) (hn : n ≤ 9223372036854775807) :
    Calls Tryz.prog 129 #[.agg #[.int .i64 N, .slice A n c]] w (GivesIB (optL (elimOf N X)) (elimOf N X).isSome w) := by
  rcases isGraph_cases N X with hg | ⟨k, Q, rfl, rfl, h⟩
  · rw [elimOf_no hg]
    have H1 := Lib.hid hg
    clear hg
    go_enter Tryz.func129, Tryz.ntmps129
    go_wp2_with fail
    refine (implIsGraph_is (hX.up (by go_grown)) hn H1.out).mono ?_
    rintro e w1 ⟨rfl, hb1⟩
    have hU1 : Up w w1 := Up.then_ (by go_grown) hb1
    go_wp2
    go_ret2
    exact givesIB_none (OwnI.nil_ _ _) (Nat.le_refl _) hU1
  · obtain rfl : n = k := by rw [← hX.1, ints_len, h.len]
    rw [elimOf_ok h]
    have hn7 := h.le
    have hpp := p2_le hn7
    have hp1 := p2_pos n
    have H2n := Lib.hid (show 2 ^ n = p2 n from rfl)
    have HR := Lib.hid (show 2 ^ n - 1 = p2 n - 1 from rfl)
    rw [HR.out]
    obtain ⟨R, hR⟩ : ∃ R, R = elimR Q 127 [] (p2 n - 1) := ⟨_, rfl⟩
    rw [← hR]
    replace hR := Lib.hid hR.symm
    have hent := entersF (f := 149) Tryz.func149 rfl rfl
    go_enter Tryz.func129, Tryz.ntmps129
    go_wp2_with fail
    refine (implIsGraph_is (hX.up (by go_grown)) hn h.is).mono ?_
    rintro e w1 ⟨rfl, hb1⟩
    have hU1 : Up w w1 := Up.then_ (by go_grown) hb1
    replace hX := hX.up hU1
    have hblk := (Blk.new w 29 #[.int .i64 n, .slice A n c]).up hb1
    obtain ⟨a, rfl, _, _⟩ := hX.addr h.pos
    have hzb := fun o => (hblk.alloc o).two
    have hyb := hblk.two
    have hlb := hblk.lt
    have hown0 := OwnI.made (base := w1.heap.size) w1 (Nat.le_refl _)
    go_wp2_with (go_at_call 92; refine (all_any n (some a) c n _ hn7).mono ?_; rintro e w2 ⟨rfl, hb2⟩)
    clear hyb hzb
    have hown2 := hown0.up hb2
    have hb12 : Below w1.heap.size w1 w2 := Up.then_ (by go_grown) hb2
    have hs2 : w1.heap.size + 1 ≤ w2.heap.size := by have := hb2.size; simp at this; exact this
    obtain ⟨w3, hw3⟩ : ∃ w3, w3 = w2.alloc (.cells #[.int .i64 ((p2 n - 1 : Nat) : Int)] 3) := ⟨_, rfl⟩
    have hbx : Blk w3 w2.heap.size 3 #[.int .i64 ((p2 n - 1 : Nat) : Int)] := by rw [hw3]; exact Blk.new _ _ _
    have hb3 : Below w2.heap.size w2 w3 := by rw [hw3]; exact (Below.refl _ _).alloc (Nat.le_refl _) _
    rw [← hw3]
    clear hw3
    have hown3 := hown2.up hb3
    have hb13 : Below w1.heap.size w1 w3 := hb12.trans (hb3.mono hb12.size)
    have hx1 := hown0.block
    clear hown0 hown2 hb2 hb3
    obtain ⟨bL, hbL⟩ : ∃ bL, bL = w2.heap.size := ⟨_, rfl⟩
    rw [← hbL] at hbx ⊢
    have hbLs : w1.heap.size + 1 ≤ bL := by omega
    clear hbL hs2 hb12 hx1
    have hy3 := hbx.one
    go_wp2_with fail
    go_loopg [4] (p2 n - 1) (fun g v wr => ∃ (acc : List Nat) (A' : Option Addr) (c' f : Nat), v = .slice A' acc.length c' ∧ OwnI wr w1.heap.size A' acc.length c' (ints acc) ∧ Blk wr bL 3 #[.int .i64 (g : Int)] ∧ (Value.slice A' acc.length c').ownBlock ≠ some bL ∧ Below w1.heap.size w1 wr ∧ acc.length + g ≤ 127 ∧ g ≤ f ∧ g < 2 ^ n ∧ Hid (elimR Q f acc g = R))
    case atStart => exact ⟨[], _, _, 127, rfl, hown3, hbx, by simp [Value.ownBlock]; omega, hb13, by simp; omega, by omega, by rw [H2n.out]; omega, hR⟩
    case round =>
      clear hbx hy3 hown3
      obtain ⟨acc, A', c', f, rfl, hown, hbx, hne, hb, hal, hgf, hgn, hel⟩ := hrel
      obtain ⟨wo, rfl⟩ : ∃ wo : World, wo = wr := ⟨_, rfl⟩
      have hy := hbx.one
      replace hX := hX.up hb
      replace hblk := hblk.up hb
      by_cases hg0 : gk = 0
      · subst hg0
        have e := hel.out
        rw [elimR_zero] at e
        go_wp2
        go_ret2
        rw [← e]
        exact givesIB_some hown hU1.size (Up.then_ hU1 hb)
      · have hg7 : gk < 128 := h.n7 hgn
        have hgi : ((gk : Int) != 0) = true := by rw [bne_iff_ne]; omega
        have hgj : ((gk : Int) == 0) = false := by rw [beq_eq_false_iff_ne]; omega
        have Hel := Lib.hid hel.out
        clear hel
        have Hfc := Lib.hid (fst_cases (fun j => spl Q gk (nb (listOf gk) j)) (listOf gk).length)
        have Hlen := Lib.hid (ints_len (listOf gk))
        have hll := listOf_len gk
        have hat : ∀ j, j < (listOf gk).length → nb (listOf gk) j < n ∧ gk.testBit (nb (listOf gk) j) = true := fun j hj => ⟨nb_lt_n hgn hj, (nb_list hj).2⟩
        have Hat := Lib.hid hat
        clear hat
        clear hy
        have yhblk := hblk.two
        have lhblk := hblk.lt
        have yhbx := hbx.one
        have lhbx := hbx.lt
        have P1 : ∀ (j : Nat) (w' : World) (B : Option Addr) (d : Nat), Up wo w' → j < (listOf gk).length → Calls Tryz.prog 149 (#[.int .i64 ((ints (listOf gk)).getD j 0)] ++ #[.pointer (some ⟨w.heap.size, 0, none⟩), .pointer (some ⟨bL, 0, none⟩)]) w' fun e w'' => e = .returned (.bool (spl Q gk ((ints (listOf gk)).getD j 0).toNat)) ∧ Below w'.heap.size w' w'' := by
          intro j w' B d hU' hj
          have := elim1_any a n c w.heap.size bL gk (nb (listOf gk) j) Q w' (hX.up hU') h (hblk.up hU') (hbx.up hU') hgn (Hat.out j hj).1
          rw [ints_nb, Int.toNat_natCast]
          exact this
        rcases Hfc.out with hno | ⟨k, hk, hpk, hno⟩
        · have HI := Lib.hid (idxF_none (p := fun z => spl Q gk z.toNat) (xs := ints (listOf gk)) fun j hj => by
            rw [ints_nb, Int.toNat_natCast]; exact hno j (by rwa [ints_len] at hj))
          have HE := Lib.hid (elimR_none (f := f) (acc := acc) hg0 hgf (stp_all hno))
          clear hno
          go_wp2_with fail
          refine (implListOf_out (by omega)).mono ?_
          rintro e w4 ⟨B, d, rfl, hown4, hb4⟩
          have hU4 : Up wo w4 := Up.then_ (by go_grown) hb4
          replace hX := hX.up hU4
          replace hblk := hblk.up hU4
          replace hbx := hbx.up hU4
          replace hown := hown.up hU4
          replace yhblk := hblk.two
          replace lhblk := hblk.lt
          replace yhbx := hbx.one
          replace lhbx := hbx.lt
          go_wp2_with fail
          refine (slIndexFunc_is _ HI.out hown4.ri (by omega) hent (fun j hj w' hU' => P1 j w' B d (Up.then_ hU4 hU') hj)).mono ?_
          rintro e w5 ⟨rfl, hb5⟩
          have hU5 : Up w4 w5 := Up.then_ (by go_grown) hb5
          replace hX := hX.up hU5
          replace hblk := hblk.up hU5
          replace hbx := hbx.up hU5
          replace hown := hown.up hU5
          replace yhblk := hblk.two
          replace lhblk := hblk.lt
          replace yhbx := hbx.one
          replace lhbx := hbx.lt
          go_wp2
          go_ret2
          have e := Hel.out
          rw [HE.out] at e
          rw [← e]
          exact givesIB_none (OwnI.nil_ _ _) (Nat.le_refl _) (Up.then_ hU1 (Up.then_ hb (Up.then_ hU4 hU5)))
        · have HI := Lib.hid (idxF_at (p := fun z => spl Q gk z.toNat) (xs := ints (listOf gk)) (k := k) (by rw [ints_len]; exact hk) (by rw [ints_nb, Int.toNat_natCast]; exact hpk) fun j hj => by
            rw [ints_nb, Int.toNat_natCast]; exact hno j hj)
          have HE := Lib.hid (elimR_some (f := f) (acc := acc) hg0 hgf (stp_idx hk hpk hno))
          clear hno hpk
          go_wp2_with fail
          refine (implListOf_out (by omega)).mono ?_
          rintro e w4 ⟨B, d, rfl, hown4, hb4⟩
          have hU4 : Up wo w4 := Up.then_ (by go_grown) hb4
          replace hX := hX.up hU4
          replace hblk := hblk.up hU4
          replace hbx := hbx.up hU4
          replace hown := hown.up hU4
          replace yhblk := hblk.two
          replace lhblk := hblk.lt
          replace yhbx := hbx.one
          replace lhbx := hbx.lt
          go_wp2_with fail
          refine (slIndexFunc_is _ HI.out hown4.ri (by omega) hent (fun j hj w' hU' => P1 j w' B d (Up.then_ hU4 hU') hj)).mono ?_
          rintro e w5 ⟨rfl, hb5⟩
          have hU5 : Up w4 w5 := Up.then_ (by go_grown) hb5
          replace hX := hX.up hU5
          replace hblk := hblk.up hU5
          replace hbx := hbx.up hU5
          replace hown := hown.up hU5
          replace yhblk := hblk.two
          replace lhblk := hblk.lt
          replace yhbx := hbx.one
          replace lhbx := hbx.lt
          clear P1 hown4
          go_wp2_with fail
          refine (implListOf_out (by omega)).mono ?_
          rintro e w6 ⟨B6, d6, rfl, hown6, hb6⟩
          have hU6 : Up w5 w6 := Up.then_ (by go_grown) hb6
          replace hX := hX.up hU6
          replace hblk := hblk.up hU6
          replace hbx := hbx.up hU6
          replace hown := hown.up hU6
          replace yhblk := hblk.two
          replace lhblk := hblk.lt
          replace yhbx := hbx.one
          replace lhbx := hbx.lt
          obtain ⟨b, rfl, hcb⟩ := hown6.ri.list_at hk
          have hat := Hat.out k hk
          obtain ⟨v, hv⟩ : ∃ v, v = nb (listOf gk) k := ⟨_, rfl⟩
          rw [← hv] at hcb hat HE
          clear hv Hat Hfc HI
          have hvn := hat.1
          have hsh := shl_p2 (k := v) (by omega)
          have hpv := p2_le (k := v) (by omega)
          have hdf := i64_dif7 hg7 (show p2 v < 128 from Nat.lt_of_lt_of_le (Nat.pow_lt_pow_right (by omega) hvn) (by have := H2n.out; omega))
          have hdl := dif_bit_lt hat.2
          have Hvl := Lib.hid (show v < gk from by
            have := sub_bit hat.2
            have := Nat.lt_two_pow_self (n := v)
            omega)
          have hdp : dif gk (p2 v) + 1 ≤ gk := hdl
          clear hat hdl
          obtain ⟨f', hf', HE'⟩ := HE.out
          have HE2 := Lib.hid (HE'.symm.trans Hel.out)
          clear HE HE' Hel
          go_wp2_with fail
          clear hcb hown6
          have hl6 := hbx.lt
          have hfz6 : w6.frozen? ⟨bL, 0, none⟩ = false := hbx.frozen 0
          have hsz6 : w1.heap.size ≤ w6.heap.size := Nat.le_trans hb.size (Nat.le_trans hU4.size (Nat.le_trans hU5.size hU6.size))
          have hy6 : w6.drew.cell? ⟨bL, 0, none⟩ = some (.int .i64 gk) := yhbx
          have hbA := hbx.drew.alloc (.cells #[.int .i64 (v : Int)] 3)
          have hyA := hbA.one
          have hriA : RI (w6.drew.alloc (.cells #[.int .i64 (v : Int)] 3)) (some ⟨w6.heap.size, 0, none⟩) 1 [(v : Int)] := (Blk.new w6.drew 3 #[.int .i64 (v : Int)]).ri (xs := [(v : Int)]) rfl
          have hownA := hown.drew.alloc (.cells #[.int .i64 (v : Int)] 3)
          go_region_law (refine step_append_own rfl (.tmp 27) (.tmp 29) rfl rfl hownA rfl hriA (by omega) (by simp; omega) ?_; intro A7 c7 w7 hown7 hb7 hg7; have hbx7 := hbA.grown hg7 (fun e => hne e.symm); have hy7 := hbx7.one; have hf7 := hbx7.frozen 0)
          all_goals
            have hshI : IntKind.i64.wrap ((2 : Int) ^ v) = ((p2 v : Nat) : Int) := by rw [IntWalk.i64_left]; exact hsh
            rw [hshI, hdf]
            have hne7 : (Value.slice A7 (acc.length + 1) c7).ownBlock ≠ some bL := hown7.ne_one hbx7 (by simp) (by
              intro e
              have h1 : ints (acc ++ [v]) = [(gk : Int)] := by rw [← ints_snoc]; exact e
              have hm : (v : Int) ∈ ints (acc ++ [v]) := ints_mem'.2 (by simp)
              rw [h1] at hm
              have := Hvl.out
              simp at hm
              omega)
            have hbx8 := hbx7.set_ 0 (.int .i64 ((dif gk (p2 v) : Nat) : Int))
            have hown8 := hown7.kept (grown_setCell w7 ⟨bL, 0, none⟩ (.int .i64 ((dif gk (p2 v) : Nat) : Int))) (.inr hne7)
            have hb8 : Below w1.heap.size w1 (w7.setCell ⟨bL, 0, none⟩ (.int .i64 ((dif gk (p2 v) : Nat) : Int))) := ((hb.trans ((Up.then_ (Up.then_ hU4 hU5) (Up.then_ hU6 (by go_grown : Up w6 (w6.drew.alloc (.cells #[.int .i64 (v : Int)] 3))))).mono hb.size)).trans hb7).setCell (by simp; omega) _
            go_wp2_with fail
            go_roundg (dif gk (p2 v))
            case measure => omega
            case rel => exact ⟨acc ++ [v], A7, c7, f', by rw [← push_len], hown8.cast push_len (by rw [ints_snoc]), hbx8, by rw [← push_len]; exact hne7, hb8, by rw [← push_len]; omega, by omega, Nat.lt_of_le_of_lt (by omega) hgn, HE2⟩
set_option maxRecDepth 100000 in
theorem l6Simplicial_is {A : Option Addr} {n c L v : Nat} {Q : List Nat} {w : World} {b : Bool} (hX : RI w A n (ints Q)) (h : GOk n Q) (hLn : L < 2 ^ n) (hv : v < n) (hb : spl Q L v = b) :
    Calls Tryz.prog 133 #[.agg #[.int .i64 n, .slice A n c], .int .i64 v, .int .i64 L] w fun e w' => e = .returned (.bool b) ∧ Below w.heap.size w w' := by
  subst hb; exact l6Simplicial_any A n c L v Q w hX h hLn hv
set_option maxRecDepth 100000 in
theorem OwnI.made_at {w : World} {base g : Nat} (h : w.heap.size = g) (hb : base ≤ g) : OwnI (w.alloc (.cells #[] 3)) base (some ⟨g, 0, none⟩) 0 0 [] := by subst h; exact OwnI.made w hb
end Go.Proofs.YthncdjcmlpiebaaGreatDoor
