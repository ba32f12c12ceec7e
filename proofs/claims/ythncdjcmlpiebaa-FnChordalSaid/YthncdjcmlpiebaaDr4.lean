/- Draws: graphs. -/
import Derived.Test.YthncdjcmlpiebaaDrA
namespace Go.Proofs.Ythncdjcmlpiebaa
open Go.RowKit
theorem gb_up {w w' w'' : World} {row : Option Nat} (h : w.grownBy w' row) (hb : Below w'.heap.size w' w'') : w.grownBy w'' row := gb_trans h (gb_of_up row hb)
theorem gb_set {w w' : World} {row : Option Nat} {p : Addr} (h : w.grownBy w' row) (hp : w.heap.size ≤ p.block) (u : Value) : w.grownBy (w'.setCell p u) row :=
  ⟨h.os, h.tape, h.output, by simpa using h.size, fun i hi hne => (Below.heap_setCell w' p u i (by omega)).trans (h.block i hi hne)⟩
theorem Cur.set {w : World} {g n c : Nat} {B : Option Addr} {bs : List Int} (h : Cur w g B n c bs) {p : Addr} (hp : g < p.block) (u : Value) : Cur (w.setCell p u) g B n c bs :=
  h.grown (grown_setCell w p u) (fun k e => by injection e with e; omega)
/-- A graph in a box while it is drawn. -/
structure GS (w : World) (g : Nat) (B : Option Addr) (n c : Nat) (bs : List Int) (gr gb m : Nat) (wr : World) (A d : Nat) (Q : List Nat) : Prop where
  cur : Cur wr g B n c bs
  res : Blk wr gr 26 #[.int .i64 0, .slice none 0 0]
  box : Blk wr gb 26 #[.int .i64 m, .slice (some ⟨A, 0, none⟩) m d]
  own : OwnI wr w.heap.size (some ⟨A, 0, none⟩) m d (ints Q)
  ok : GOk m Q
  gby : w.grownBy wr (some g)
  low : g < w.heap.size
  hgr : w.heap.size ≤ gr
  hgb : w.heap.size ≤ gb
  ne : gr ≠ gb
section
variable {w : World} {g n c gr gb m A d : Nat} {B : Option Addr} {bs : List Int} {wr w' : World} {Q : List Nat}
theorem GS.up (I : GS w g B n c bs gr gb m wr A d Q) (hb : Up wr w') : GS w g B n c bs gr gb m w' A d Q :=
  ⟨I.cur.up hb, I.res.up hb, I.box.up hb, I.own.up hb, I.ok, gb_up I.gby hb, I.low, I.hgr, I.hgb, I.ne⟩
theorem GS.dr (I : GS w g B n c bs gr gb m wr A d Q) (hC : Cur w' g B n c bs) (hg : wr.grownBy w' (some g)) : GS w g B n c bs gr gb m w' A d Q :=
  ⟨hC, I.res.grown hg (fun e => by injection e with e; have := I.low; have := I.hgr; omega), I.box.grown hg (fun e => by injection e with e; have := I.low; have := I.hgb; omega), I.own.far_gb hg I.low, I.ok, gb_trans I.gby hg, I.low, I.hgr, I.hgb, I.ne⟩
theorem GS.put (I : GS w g B n c bs gr gb m wr A d Q) {A' d' : Nat} {Q' : List Nat} (hb : Up wr w') (ho : OwnI w' wr.heap.size (some ⟨A', 0, none⟩) m d' (ints Q')) (hq : GOk m Q') :
    GS w g B n c bs gr gb m ((w'.setCell ⟨gb, 0, none⟩ (.int .i64 m)).setCell ⟨gb, 1, none⟩ (.slice (some ⟨A', 0, none⟩) m d')) A' d' Q' := by
  have I2 := I.up hb
  have hlow := I.low
  have hgb := I.hgb
  have hgr := I.hgr
  have hne := I.ne
  have hs := I.gby.size
  have o1 := ho.other_store (i := 0) I2.box (by decide) (.int .i64 m)
  have o2 := o1.other_store (i := 1) (I2.box.set_ 0 (.int .i64 m)) (by decide) (.slice (some ⟨A', 0, none⟩) m d')
  exact ⟨(I2.cur.set (p := ⟨gb, 0, none⟩) (by show g < gb; omega) _).set (p := ⟨gb, 1, none⟩) (by show g < gb; omega) _, (I2.res.far (p := ⟨gb, 0, none⟩) hne _).far (p := ⟨gb, 1, none⟩) hne _, (I2.box.set_ 0 _).set_ 1 _, o2.more (by omega), hq,
    gb_set (gb_set I2.gby (p := ⟨gb, 0, none⟩) hgb _) (p := ⟨gb, 1, none⟩) hgb _, hlow, hgr, hgb, hne⟩
end
/-- What a drawn graph is: rows of the call's own. -/
def isGraphV (base m : Nat) (v : Value) (w' : World) : Prop := ∃ A d Q, v = .agg #[.int .i64 (m : Nat), .slice (some ⟨A, 0, none⟩) m d] ∧ GOk m Q ∧ OwnI w' base (some ⟨A, 0, none⟩) m d (ints Q)
set_option maxRecDepth 100000 in
set_option maxHeartbeats 1000000 in
theorem l2Random_any {g : Nat} {B : Option Addr} {n c : Nat} {bs : List Int} {w : World} (hC : Cur w g B n c bs) (m : Nat) (h1 : 1 ≤ m) (h7 : m ≤ 7) (odd : Int) :
    Calls Try.prog 109 #[.pointer (some ⟨g, 0, none⟩), .int .i64 (m : Nat), .int .i64 odd] w (Dr g B n c bs w fun v w' => isGraphV w.heap.size m v w') := by
  have hmk := make_ints m (by omega)
  have hlow := hC.lt
  have I0 : GS w g B n c bs w.heap.size (w.heap.size + 2) m (((w.alloc (.cells #[.int .i64 0, .slice none 0 0] 26)).alloc (.cells (zeros m) 3)).alloc (.cells #[.int .i64 m, .slice (some ⟨w.heap.size + 1, 0, none⟩) m m] 26)) (w.heap.size + 1) m (List.replicate m 0) := by
    have hz : Blk ((w.alloc (.cells #[.int .i64 0, .slice none 0 0] 26)).alloc (.cells (zeros m) 3)) (w.heap.size + 1) 3 (natCells (List.replicate m 0)) := by rw [natCells_zero]; exact Blk.new_at (by simp)
    have ho := (hz.alloc (.cells #[.int .i64 m, .slice (some ⟨w.heap.size + 1, 0, none⟩) m m] 26)).own (base := w.heap.size) (n := m) (by omega) (by rw [natCells_size]; simp) (by unfold maxLen; omega)
    have hu : Up w (((w.alloc (.cells #[.int .i64 0, .slice none 0 0] 26)).alloc (.cells (zeros m) 3)).alloc (.cells #[.int .i64 m, .slice (some ⟨w.heap.size + 1, 0, none⟩) m m] 26)) := by go_grown
    exact ⟨hC.up hu, ((Blk.new w _ _).alloc _).alloc _, Blk.new_at (by simp), by unfold OwnI; exact ho, GOk.empty h1 h7, gb_of_up _ hu, hlow, Nat.le_refl _, by omega, by omega⟩
  go_enter Try.func109, Try.ntmps109
  go_wp2_with fail
  have e2 : w.heap.size + 1 + 1 = w.heap.size + 2 := by omega
  rw [e2]
  clear e2 hmk
  obtain ⟨gr, hgr⟩ : ∃ gr, gr = w.heap.size := ⟨_, rfl⟩
  obtain ⟨gb, hgb⟩ : ∃ gb, gb = w.heap.size + 2 := ⟨_, rfl⟩
  obtain ⟨gs, hgs⟩ : ∃ gs, gs = w.heap.size + 1 := ⟨_, rfl⟩
  obtain ⟨W1, hW1⟩ : ∃ W1, W1 = (((w.alloc (.cells #[.int .i64 0, .slice none 0 0] 26)).alloc (.cells (zeros m) 3)).alloc (.cells #[.int .i64 m, .slice (some ⟨w.heap.size + 1, 0, none⟩) m m] 26)) := ⟨_, rfl⟩
  rw [← hW1] at I0
  rw [← hgb, ← hgs] at I0
  have I1 : GS w g B n c bs gr gb m W1 gs m (List.replicate m 0) := by rw [hgr]; exact I0
  rw [← hW1, ← hgb, ← hgs, ← hgr]
  clear I0 hW1 hgb hgs hgr hC hlow
  go_loopw [8] (fun v wr => ∃ (k : Nat) (A d : Nat) (Q : List Nat), k ≤ m ∧ v = .int .i64 k ∧ GS w g B n c bs gr gb m wr A d Q) (fun v _ => m - (intOf v).toNat)
  case atStart => exact ⟨0, _, _, _, Nat.zero_le _, rfl, I1⟩
  case round =>
    clear I1
    obtain ⟨k, A, d, Q, hk, rfl, I⟩ := hrel
    by_cases hkm : k < m
    · go_wp2
      go_loopw [9] (fun v wr => ∃ (j : Nat) (A d : Nat) (Q : List Nat), k < j ∧ j ≤ m ∧ v = .int .i64 j ∧ GS w g B n c bs gr gb m wr A d Q) (fun v _ => m - (intOf v).toNat)
      case atStart => exact ⟨k + 1, _, _, _, by omega, by omega, by go_num, I⟩
      case round =>
        clear I
        obtain ⟨j, A, d, Q, hkj, hj, rfl, I⟩ := hrel
        obtain ⟨wo, rfl⟩ : ∃ wo : World, wo = wr := ⟨_, rfl⟩
        by_cases hjm : j < m
        · go_wp2_with fail
          refine (l1Below_any I.cur 10 (by omega) (by omega)).mono ?_
          rintro e w2 ⟨v, rfl, ⟨x, rfl, hx⟩, hC2, hg2⟩
          replace I := I.dr hC2 hg2
          clear hC2 hg2
          by_cases hodd : (x : Int) < odd
          · have hy := I.box.two
            have hfz := I.box.frozen
            have hf0 := hfz 0
            have hf1 := hfz 1
            clear hfz
            go_wp2_with fail
            refine (addEdge_graph ⟨A, 0, none⟩ m d k j Q w2 I.own.ri I.ok hkm hjm).mono ?_
            rintro e w3 ⟨A', d', Q', b, rfl, hq, ho, hb⟩
            have I3 := I.put hb ho hq
            have I2 := I.up hb
            clear hy hf0 hf1 I ho
            have hy := I2.box.two
            have hfz := I2.box.frozen
            have hf0 := hfz 0
            have hf1 := hfz 1
            clear hfz
            go_wp2
            go_roundw
            case rel => exact ⟨j + 1, A', d', Q', by omega, by omega, by go_num, I3⟩
            case measure => simp [intOf]; omega
          · go_wp2
            go_roundw
            case rel => exact ⟨j + 1, A, d, Q, by omega, by omega, by go_num, I⟩
            case measure => simp [intOf]; omega
        · obtain rfl : j = m := by omega
          go_wp2
          go_roundw
          case rel => exact ⟨k + 1, A, d, Q, by omega, by go_num, I⟩
          case measure => simp [intOf]; omega
    · obtain rfl : k = m := by omega
      have hy := I.box.two
      have hfz := I.res.frozen
      have hf0 := hfz 0
      have hf1 := hfz 1
      clear hfz
      have hyr := I.res.two
      have hgr := I.hgr
      have hlow := I.low
      have hfin := ((I.res.set_ 0 (.int .i64 (k : Nat))).set_ 1 (.slice (some ⟨A, 0, none⟩) k d)).two
      have o2 := (I.own.other_store (i := 0) I.res (by decide) (.int .i64 (k : Nat))).other_store (i := 1) (I.res.set_ 0 (.int .i64 (k : Nat))) (by decide) (.slice (some ⟨A, 0, none⟩) k d)
      have hC2 := (I.cur.set (p := ⟨gr, 0, none⟩) (by show g < gr; omega) (.int .i64 (k : Nat))).set (p := ⟨gr, 1, none⟩) (by show g < gr; omega) (.slice (some ⟨A, 0, none⟩) k d)
      have hg2 := gb_set (gb_set I.gby (p := ⟨gr, 0, none⟩) hgr (.int .i64 (k : Nat))) (p := ⟨gr, 1, none⟩) hgr (.slice (some ⟨A, 0, none⟩) k d)
      have hq := I.ok
      clear I
      go_wp2
      generalize (wr.setCell ⟨gr, 0, none⟩ (.int .i64 (k : Nat))).setCell ⟨gr, 1, none⟩ (.slice (some ⟨A, 0, none⟩) k d) = Wf at hfin o2 hC2 hg2 ⊢
      refine bodyPost_ret (v := .agg #[.int .i64 (k : Nat), .slice (some ⟨A, 0, none⟩) k d]) ?_ rfl ?_
      · simp [results, Try.results109, go_sem, hfin]
      exact ⟨_, rfl, ⟨A, d, Q, rfl, hq, o2⟩, hC2, hg2⟩
theorem l1Pick_any {g : Nat} {B : Option Addr} {n c : Nat} {bs : List Int} {w : World} (hC : Cur w g B n c bs) {h m d : Nat} {ss : Nat → ByteArray} (hS : ∀ j, j < m → w.cell? ⟨h, j, none⟩ = some (.string (ss j))) (hh : h < w.heap.size) (hne : h ≠ g) (h0 : 1 ≤ m) (hm : m ≤ 256) :
    Calls Try.prog 108 #[.pointer (some ⟨g, 0, none⟩), .slice (some ⟨h, 0, none⟩) m d] w (Dr g B n c bs w fun v _ => ∃ j, j < m ∧ v = .string (ss j)) := by
  go_enter Try.func108, Try.ntmps108
  go_wp2_with fail
  refine (l1Below_any hC m h0 hm).mono ?_
  rintro e w1 ⟨v, rfl, ⟨x, rfl, hx⟩, hC1, hg1⟩
  have hc : w1.cell? ⟨h, x, none⟩ = some (.string (ss x)) := by rw [← hS x hx]; exact hg1.cell_far _ hh (by simpa using hne)
  go_wp2
  go_ret
  exact ⟨_, rfl, ⟨x, hx, rfl⟩, hC1, hg1⟩
/-- The five names that are drawn. -/
def gname (j : Nat) : ByteArray := match j with
  | 0 => ⟨#[112, 97, 116, 104]⟩
  | 1 => ⟨#[99, 121, 99, 108, 101]⟩
  | 2 => ⟨#[99, 111, 109, 112, 108, 101, 116, 101]⟩
  | 3 => ⟨#[115, 116, 97, 114]⟩
  | _ => ⟨#[119, 104, 101, 101, 108]⟩
/-- A graph in a box, no cursor in sight. -/
structure GN (w : World) (gr gb m : Nat) (wr : World) (A d : Nat) (Q : List Nat) : Prop where
  res : Blk wr gr 26 #[.int .i64 0, .slice none 0 0]
  box : Blk wr gb 26 #[.int .i64 m, .slice (some ⟨A, 0, none⟩) m d]
  own : OwnI wr w.heap.size (some ⟨A, 0, none⟩) m d (ints Q)
  ok : GOk m Q
  bel : Below w.heap.size w wr
  hgr : w.heap.size ≤ gr
  hgb : w.heap.size ≤ gb
  ne : gr ≠ gb
section
variable {w : World} {gr gb m A d : Nat} {wr w' : World} {Q : List Nat}
theorem GN.up (I : GN w gr gb m wr A d Q) (hb : Up wr w') : GN w gr gb m w' A d Q :=
  ⟨I.res.up hb, I.box.up hb, I.own.up hb, I.ok, Up.then_ I.bel hb, I.hgr, I.hgb, I.ne⟩
theorem GN.put (I : GN w gr gb m wr A d Q) {A' d' : Nat} {Q' : List Nat} (hb : Up wr w') (ho : OwnI w' wr.heap.size (some ⟨A', 0, none⟩) m d' (ints Q')) (hq : GOk m Q') :
    GN w gr gb m ((w'.setCell ⟨gb, 0, none⟩ (.int .i64 m)).setCell ⟨gb, 1, none⟩ (.slice (some ⟨A', 0, none⟩) m d')) A' d' Q' := by
  have I2 := I.up hb
  have hgb := I.hgb
  have hgr := I.hgr
  have hne := I.ne
  have hs := I.bel.size
  have o1 := ho.other_store (i := 0) I2.box (by decide) (.int .i64 m)
  have o2 := o1.other_store (i := 1) (I2.box.set_ 0 (.int .i64 m)) (by decide) (.slice (some ⟨A', 0, none⟩) m d')
  exact ⟨(I2.res.far (p := ⟨gb, 0, none⟩) hne _).far (p := ⟨gb, 1, none⟩) hne _, (I2.box.set_ 0 _).set_ 1 _, o2.more (by omega), hq,
    (I2.bel.setCell (p := ⟨gb, 0, none⟩) hgb _).setCell (p := ⟨gb, 1, none⟩) hgb _, hgr, hgb, hne⟩
end
set_option maxRecDepth 100000 in
set_option maxHeartbeats 4000000 in
theorem namedGraph_any (nm : Nat) (hnm : nm < 5) (m : Nat) (h1 : 1 ≤ m) (h7 : m ≤ 7) (w : World) :
    Calls Try.prog 99 #[.string (gname nm), .int .i64 (m : Nat)] w fun e w' => ∃ A d Q, e = .returned (.tuple #[.agg #[.int .i64 (m : Nat), .slice (some ⟨A, 0, none⟩) m d], .bool true]) ∧ GOk m Q ∧ OwnI w' w.heap.size (some ⟨A, 0, none⟩) m d (ints Q) ∧ Below w.heap.size w w' := by
  obtain ⟨s, hs⟩ : ∃ s, s = gname nm := ⟨_, rfl⟩
  have HS := Lib.hid (show s = ⟨#[112, 97, 116, 104]⟩ ∨ s = ⟨#[99, 121, 99, 108, 101]⟩ ∨ s = ⟨#[99, 111, 109, 112, 108, 101, 116, 101]⟩ ∨ s = ⟨#[115, 116, 97, 114]⟩ ∨ s = ⟨#[119, 104, 101, 101, 108]⟩ by
    rw [hs]
    match nm, hnm with
    | 0, _ => exact .inl rfl
    | 1, _ => exact .inr (.inl rfl)
    | 2, _ => exact .inr (.inr (.inl rfl))
    | 3, _ => exact .inr (.inr (.inr (.inl rfl)))
    | 4, _ => exact .inr (.inr (.inr (.inr rfl))))
  rw [← hs]
  clear hs hnm
  have hmk := make_ints m (by omega)
  have key : ∀ w0 : World, w0.heap.size = w.heap.size + 1 → Below w.heap.size w w0 → Blk w0 w.heap.size 26 #[.int .i64 0, .slice none 0 0] → GN w w.heap.size (w.heap.size + 2) m ((w0.alloc (.cells (zeros m) 3)).alloc (.cells #[.int .i64 m, .slice (some ⟨w.heap.size + 1, 0, none⟩) m m] 26)) (w.heap.size + 1) m (List.replicate m 0) := fun w0 hsz hb hk => by
    have hz : Blk (w0.alloc (.cells (zeros m) 3)) (w.heap.size + 1) 3 (natCells (List.replicate m 0)) := by rw [natCells_zero]; exact Blk.new_at hsz
    have ho := (hz.alloc (.cells #[.int .i64 m, .slice (some ⟨w.heap.size + 1, 0, none⟩) m m] 26)).own (base := w.heap.size) (n := m) (by omega) (by rw [natCells_size]; simp) (by unfold maxLen; omega)
    exact ⟨(hk.alloc _).alloc _, Blk.new_at (by simp; omega), by unfold OwnI; exact ho, GOk.empty h1 h7, (hb.alloc (by omega) _).alloc (by simp; omega) _, Nat.le_refl _, by omega, by omega⟩
  have hk0 := Blk.new w 26 #[.int .i64 0, .slice none 0 0]
  have hb0 : Below w.heap.size w (w.alloc (.cells #[.int .i64 0, .slice none 0 0] 26)) := by go_grown
  go_enter Try.func99, Try.ntmps99
  go_wp2_with fail
  refine (l1In_yes _ _ _ _ (by omega)).mono ?_
  rintro e w0' ⟨rfl, rfl⟩
  have I0 := key _ (by simp) hb0 hk0
  clear key hb0 hk0
  go_wp2_with fail
  have e2 : w.heap.size + 1 + 1 = w.heap.size + 2 := by omega
  rw [e2]
  clear e2 hmk
  obtain ⟨gr, hgr⟩ : ∃ gr, gr = w.heap.size := ⟨_, rfl⟩
  obtain ⟨gb, hgb⟩ : ∃ gb, gb = w.heap.size + 2 := ⟨_, rfl⟩
  obtain ⟨gs, hgs⟩ : ∃ gs, gs = w.heap.size + 1 := ⟨_, rfl⟩
  obtain ⟨W1, hW1⟩ : ∃ W1, W1 = (((w.alloc (.cells #[.int .i64 0, .slice none 0 0] 26)).alloc (.cells (zeros m) 3)).alloc (.cells #[.int .i64 m, .slice (some ⟨w.heap.size + 1, 0, none⟩) m m] 26)) := ⟨_, rfl⟩
  rw [← hW1] at I0
  rw [← hgb, ← hgs] at I0
  have I1 : GN w gr gb m W1 gs m (List.replicate m 0) := by rw [hgr]; exact I0
  rw [← hW1, ← hgb, ← hgs, ← hgr]
  clear I0 hW1 hgb hgs hgr
  go_loopw [7] (fun v wr => ∃ (k : Nat) (A d : Nat) (Q : List Nat), k ≤ m ∧ v = .int .i64 k ∧ GN w gr gb m wr A d Q) (fun v _ => m - (intOf v).toNat)
  case atStart => exact ⟨0, _, _, _, Nat.zero_le _, rfl, I1⟩
  case round =>
    clear I1
    obtain ⟨k, A, d, Q, hk, rfl, I⟩ := hrel
    by_cases hkm : k < m
    · have hk3 : k = 0 ∨ k = 1 ∨ 2 ≤ k := by omega
      rcases hk3 with rfl | rfl | hk2
      · rw [show ((0 : Nat) : Int) = 0 from rfl]
        go_wp2
        go_loopw [8] (fun v wr => ∃ (j : Nat) (A d : Nat) (Q : List Nat), 0 < j ∧ j ≤ m ∧ v = .int .i64 j ∧ GN w gr gb m wr A d Q) (fun v _ => m - (intOf v).toNat)
        case atStart => exact ⟨0 + 1, _, _, _, by omega, by omega, by first | rfl | go_num, I⟩
        case round =>
          clear I
          obtain ⟨j, A, d, Q, hkj, hj, rfl, I⟩ := hrel
          obtain ⟨wo, rfl⟩ : ∃ wo : World, wo = wr := ⟨_, rfl⟩
          by_cases hjm : j < m
          · have hy := I.box.two
            have hfz := I.box.frozen
            have hf0 := hfz 0
            have hf1 := hfz 1
            clear hfz
            have hadd := addEdge_graph ⟨A, 0, none⟩ m d 0 j Q wo I.own.ri I.ok hkm hjm
            by_cases hjk : j = 0 + 1
            · subst hjk
              rcases HS.out with rfl | rfl | rfl | rfl | rfl
              all_goals
                clear HS
                have Hadd := Lib.hid hadd
                clear hadd
                go_wp2_with fail
                all_goals first
                  | (refine ⟨⟨0 + 2, A, d, Q, by omega, by omega, by first | rfl | go_num, I⟩, by simp [intOf]; omega⟩)
                  | (refine Hadd.out.mono ?_; rintro e w3 ⟨A', d', Q', b, rfl, hq, ho, hb⟩; have I3 := I.put hb ho hq; have I2 := I.up hb; clear hy hf0 hf1 I ho Hadd; have hy := I2.box.two; have hfz := I2.box.frozen; have hf0 := hfz 0; have hf1 := hfz 1; clear hfz; go_wp2; go_roundw; (case rel => exact ⟨0 + 2, A', d', Q', by omega, by omega, by first | rfl | go_num, I3⟩); (case measure => simp [intOf]; omega))
            · have hjb : ((j : Int) == ((0 : Nat) : Int) + 1) = false := by rw [beq_eq_false_iff_ne]; omega
              rcases HS.out with rfl | rfl | rfl | rfl | rfl
              all_goals
                clear HS
                have Hadd := Lib.hid hadd
                clear hadd
                go_wp2_with fail
                all_goals first
                  | (refine ⟨⟨j + 1, A, d, Q, by omega, by omega, by go_num, I⟩, by simp [intOf]; omega⟩)
                  | (refine Hadd.out.mono ?_; rintro e w3 ⟨A', d', Q', b, rfl, hq, ho, hb⟩; have I3 := I.put hb ho hq; have I2 := I.up hb; clear hy hf0 hf1 I ho Hadd; have hy := I2.box.two; have hfz := I2.box.frozen; have hf0 := hfz 0; have hf1 := hfz 1; clear hfz; go_wp2; go_roundw; (case rel => exact ⟨j + 1, A', d', Q', by omega, by omega, by go_num, I3⟩); (case measure => simp [intOf]; omega))
          · obtain rfl : j = m := by omega
            go_wp2
            go_roundw
            case rel => exact ⟨0 + 1, A, d, Q, by omega, by first | rfl | go_num, I⟩
            case measure => simp [intOf]; omega
      · have h1m : decide ((1 : Int) < (m : Int)) = true := decide_eq_true (by omega)
        rw [show ((1 : Nat) : Int) = 1 from rfl]
        go_wp2
        go_loopw [8] (fun v wr => ∃ (j : Nat) (A d : Nat) (Q : List Nat), 1 < j ∧ j ≤ m ∧ v = .int .i64 j ∧ GN w gr gb m wr A d Q) (fun v _ => m - (intOf v).toNat)
        case atStart => exact ⟨1 + 1, _, _, _, by omega, by omega, by first | rfl | go_num, I⟩
        case round =>
          clear I
          obtain ⟨j, A, d, Q, hkj, hj, rfl, I⟩ := hrel
          obtain ⟨wo, rfl⟩ : ∃ wo : World, wo = wr := ⟨_, rfl⟩
          by_cases hjm : j < m
          · have hy := I.box.two
            have hfz := I.box.frozen
            have hf0 := hfz 0
            have hf1 := hfz 1
            clear hfz
            have hadd := addEdge_graph ⟨A, 0, none⟩ m d 1 j Q wo I.own.ri I.ok hkm hjm
            by_cases hjk : j = 1 + 1
            · subst hjk
              rcases HS.out with rfl | rfl | rfl | rfl | rfl
              all_goals
                clear HS
                have Hadd := Lib.hid hadd
                clear hadd
                go_wp2_with fail
                all_goals first
                  | (refine ⟨⟨1 + 2, A, d, Q, by omega, by omega, by first | rfl | go_num, I⟩, by simp [intOf]; omega⟩)
                  | (refine Hadd.out.mono ?_; rintro e w3 ⟨A', d', Q', b, rfl, hq, ho, hb⟩; have I3 := I.put hb ho hq; have I2 := I.up hb; clear hy hf0 hf1 I ho Hadd; have hy := I2.box.two; have hfz := I2.box.frozen; have hf0 := hfz 0; have hf1 := hfz 1; clear hfz; go_wp2; go_roundw; (case rel => exact ⟨1 + 2, A', d', Q', by omega, by omega, by first | rfl | go_num, I3⟩); (case measure => simp [intOf]; omega))
            · have hjb : ((j : Int) == ((1 : Nat) : Int) + 1) = false := by rw [beq_eq_false_iff_ne]; omega
              rcases HS.out with rfl | rfl | rfl | rfl | rfl
              all_goals
                clear HS
                have Hadd := Lib.hid hadd
                clear hadd
                go_wp2_with fail
                all_goals first
                  | (refine ⟨⟨j + 1, A, d, Q, by omega, by omega, by go_num, I⟩, by simp [intOf]; omega⟩)
                  | (refine Hadd.out.mono ?_; rintro e w3 ⟨A', d', Q', b, rfl, hq, ho, hb⟩; have I3 := I.put hb ho hq; have I2 := I.up hb; clear hy hf0 hf1 I ho Hadd; have hy := I2.box.two; have hfz := I2.box.frozen; have hf0 := hfz 0; have hf1 := hfz 1; clear hfz; go_wp2; go_roundw; (case rel => exact ⟨j + 1, A', d', Q', by omega, by omega, by go_num, I3⟩); (case measure => simp [intOf]; omega))
          · obtain rfl : j = m := by omega
            go_wp2
            go_roundw
            case rel => exact ⟨1 + 1, A, d, Q, by omega, by first | rfl | go_num, I⟩
            case measure => simp [intOf]; omega
      · have hk0 : ((k : Int) == 0) = false := by rw [beq_eq_false_iff_ne]; omega
        have hk1 : ((k : Int) == 1) = false := by rw [beq_eq_false_iff_ne]; omega
        go_wp2
        go_loopw [8] (fun v wr => ∃ (j : Nat) (A d : Nat) (Q : List Nat), k < j ∧ j ≤ m ∧ v = .int .i64 j ∧ GN w gr gb m wr A d Q) (fun v _ => m - (intOf v).toNat)
        case atStart => exact ⟨k + 1, _, _, _, by omega, by omega, by first | rfl | go_num, I⟩
        case round =>
          clear I
          obtain ⟨j, A, d, Q, hkj, hj, rfl, I⟩ := hrel
          obtain ⟨wo, rfl⟩ : ∃ wo : World, wo = wr := ⟨_, rfl⟩
          by_cases hjm : j < m
          · have hy := I.box.two
            have hfz := I.box.frozen
            have hf0 := hfz 0
            have hf1 := hfz 1
            clear hfz
            have hadd := addEdge_graph ⟨A, 0, none⟩ m d k j Q wo I.own.ri I.ok hkm hjm
            by_cases hjk : j = k + 1
            · subst hjk
              rcases HS.out with rfl | rfl | rfl | rfl | rfl
              all_goals
                clear HS
                have Hadd := Lib.hid hadd
                clear hadd
                go_wp2_with fail
                all_goals first
                  | (refine ⟨⟨k + 2, A, d, Q, by omega, by omega, by first | rfl | go_num, I⟩, by simp [intOf]; omega⟩)
                  | (refine Hadd.out.mono ?_; rintro e w3 ⟨A', d', Q', b, rfl, hq, ho, hb⟩; have I3 := I.put hb ho hq; have I2 := I.up hb; clear hy hf0 hf1 I ho Hadd; have hy := I2.box.two; have hfz := I2.box.frozen; have hf0 := hfz 0; have hf1 := hfz 1; clear hfz; go_wp2; go_roundw; (case rel => exact ⟨k + 2, A', d', Q', by omega, by omega, by first | rfl | go_num, I3⟩); (case measure => simp [intOf]; omega))
            · have hjb : ((j : Int) == ((k : Nat) : Int) + 1) = false := by rw [beq_eq_false_iff_ne]; omega
              rcases HS.out with rfl | rfl | rfl | rfl | rfl
              all_goals
                clear HS
                have Hadd := Lib.hid hadd
                clear hadd
                go_wp2_with fail
                all_goals first
                  | (refine ⟨⟨j + 1, A, d, Q, by omega, by omega, by go_num, I⟩, by simp [intOf]; omega⟩)
                  | (refine Hadd.out.mono ?_; rintro e w3 ⟨A', d', Q', b, rfl, hq, ho, hb⟩; have I3 := I.put hb ho hq; have I2 := I.up hb; clear hy hf0 hf1 I ho Hadd; have hy := I2.box.two; have hfz := I2.box.frozen; have hf0 := hfz 0; have hf1 := hfz 1; clear hfz; go_wp2; go_roundw; (case rel => exact ⟨j + 1, A', d', Q', by omega, by omega, by go_num, I3⟩); (case measure => simp [intOf]; omega))
          · obtain rfl : j = m := by omega
            go_wp2
            go_roundw
            case rel => exact ⟨k + 1, A, d, Q, by omega, by first | rfl | go_num, I⟩
            case measure => simp [intOf]; omega
    · obtain rfl : k = m := by omega
      have hy := I.box.two
      have hfz := I.res.frozen
      have hf0 := hfz 0
      have hf1 := hfz 1
      clear hfz
      have hyr := I.res.two
      have hgr := I.hgr
      have hfin := ((I.res.set_ 0 (.int .i64 (k : Nat))).set_ 1 (.slice (some ⟨A, 0, none⟩) k d)).two
      have o2 := (I.own.other_store (i := 0) I.res (by decide) (.int .i64 (k : Nat))).other_store (i := 1) (I.res.set_ 0 (.int .i64 (k : Nat))) (by decide) (.slice (some ⟨A, 0, none⟩) k d)
      have hb2 := (I.bel.setCell (p := ⟨gr, 0, none⟩) hgr (.int .i64 (k : Nat))).setCell (p := ⟨gr, 1, none⟩) hgr (.slice (some ⟨A, 0, none⟩) k d)
      have hq := I.ok
      clear I
      rcases HS.out with rfl | rfl | rfl | rfl | rfl
      all_goals
        clear HS
        go_wp2
        all_goals first
          | (generalize (wr.setCell ⟨gr, 0, none⟩ (.int .i64 (k : Nat))).setCell ⟨gr, 1, none⟩ (.slice (some ⟨A, 0, none⟩) k d) = Wf at hfin o2 hb2 ⊢; (refine bodyPost_ret (v := .tuple #[.agg #[.int .i64 (k : Nat), .slice (some ⟨A, 0, none⟩) k d], .bool true]) ?_ rfl ?_); (· simp [results, Try.results99, go_sem, hfin]); exact ⟨A, d, Q, rfl, hq, o2, hb2⟩)
          | (obtain rfl : k = 1 := by omega
             change bodyPost _ _ _ _ _ ((wr.setCell ⟨gr, 0, none⟩ (.int .i64 ((1 : Nat) : Int))).setCell ⟨gr, 1, none⟩ (.slice (some ⟨A, 0, none⟩) 1 d))
             generalize (wr.setCell ⟨gr, 0, none⟩ (.int .i64 ((1 : Nat) : Int))).setCell ⟨gr, 1, none⟩ (.slice (some ⟨A, 0, none⟩) 1 d) = Wf at hfin o2 hb2 ⊢; (refine bodyPost_ret (v := .tuple #[.agg #[.int .i64 ((1 : Nat) : Int), .slice (some ⟨A, 0, none⟩) 1 d], .bool true]) ?_ rfl ?_); (· simp [results, Try.results99, go_sem, hfin]); exact ⟨A, d, Q, rfl, hq, o2, hb2⟩)
end Go.Proofs.Ythncdjcmlpiebaa
