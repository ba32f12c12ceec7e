/- Draws: intervals. Walks of chapter 9: models by intervals, in the program and in the reference. -/
import Derived.Test.YthncdjcmlpiebaaGreatQi01
import Derived.Test.YthncdjcmlpiebaaGreatQi02
import Derived.Test.YthncdjcmlpiebaaGreatQi03
import Derived.Test.YthncdjcmlpiebaaGreatQi04
import Derived.Test.YthncdjcmlpiebaaGreatQi05
import Derived.Test.YthncdjcmlpiebaaGreatQi10
import Derived.Deep.RegionLaw
import Derived.Deep.RegionWith
namespace Go.Proofs.YthncdjcmlpiebaaGreat
open Go.RowKit
set_option maxRecDepth 100000 in
theorem wpList_pushA9 {ops : Array Oper} {rest : List Oper} {o : Oper} {a : Act} {Q : Exit → Act → World → Prop} {w : World} (hgd : o.guard = none) (s x : Operand)
    (ho : o.op = .call { callee := .builtin .append, args := #[s, x], argTypes := #[24, 24] }) {W : World} {ra rb : Option Nat} {base : Nat} {e2 : TypeId} {A B : Option Addr} {n c m d : Nat} {xs ys : List Value} (y : Int)
    (hs : a.eval s = .slice A n c) (h : Two W ra rb base 3 e2 A n c xs B m d ys w) (ad : Addr) (hx : a.eval x = .slice (some ad) 1 1) (hc : w.cell? ad = some (.int .i64 y)) (hn : n ≤ 1048576) (hbase : base ≤ W.heap.size)
    (hK : ∀ A' c' w', Two W ra rb base 3 e2 A' (n + 1) c' (xs ++ [.int .i64 y]) B m d ys w' → wpList Tryz.prog ops Q rest (a.put o.dst (.slice A' (n + 1) c')) w') : wpList Tryz.prog ops Q (o :: rest) a w :=
  wpList_plain hgd fun K hK' => by
    have hw : Region.wanted o (yielded ops a.tmps) = true := by simp [Region.wanted, hgd]
    have := stepA_int (ops := ops) (K := K) (Q := Q) (E := False) hgd s x ho y hs h ad hx hc hn hbase fun A' c' w' h1 _ => hK' _ _ (hK A' c' w' h1)
    rwa [if_pos hw] at this
set_option maxRecDepth 100000 in
theorem wpList_pushB9 {ops : Array Oper} {rest : List Oper} {o : Oper} {a : Act} {Q : Exit → Act → World → Prop} {w : World} (hgd : o.guard = none) (s x : Operand)
    (ho : o.op = .call { callee := .builtin .append, args := #[s, x], argTypes := #[24, 24] }) {W : World} {ra rb : Option Nat} {base : Nat} {e1 : TypeId} {A B : Option Addr} {n c m d : Nat} {xs ys : List Value} (y : Int)
    (hs : a.eval s = .slice B m d) (h : Two W ra rb base e1 3 A n c xs B m d ys w) (ad : Addr) (hx : a.eval x = .slice (some ad) 1 1) (hc : w.cell? ad = some (.int .i64 y)) (hn : m ≤ 1048576) (hbase : base ≤ W.heap.size)
    (hK : ∀ B' d' w', Two W ra rb base e1 3 A n c xs B' (m + 1) d' (ys ++ [.int .i64 y]) w' → wpList Tryz.prog ops Q rest (a.put o.dst (.slice B' (m + 1) d')) w') : wpList Tryz.prog ops Q (o :: rest) a w :=
  wpList_plain hgd fun K hK' => by
    have hw : Region.wanted o (yielded ops a.tmps) = true := by simp [Region.wanted, hgd]
    have := stepB_int (ops := ops) (K := K) (Q := Q) (E := False) hgd s x ho y hs h ad hx hc hn hbase fun B' d' w' h1 _ => hK' _ _ (hK B' d' w' h1)
    rwa [if_pos hw] at this
set_option maxRecDepth 100000 in
theorem gbm_up {w w' w'' : World} {row : Option Nat} (h : w.grownBy w' row) (hb : Below w'.heap.size w' w'') : w.grownBy w'' row := gb_trans h (gb_of_up row hb)
set_option maxRecDepth 100000 in
theorem gbm_set {w w' : World} {row : Option Nat} {p : Addr} (h : w.grownBy w' row) (hp : w.heap.size ≤ p.block) (u : Value) : w.grownBy (w'.setCell p u) row :=
  ⟨h.os, h.tape, h.output, by simpa using h.size, fun i hi hne => (Below.heap_setCell w' p u i (by omega)).trans (h.block i hi hne)⟩
set_option maxRecDepth 100000 in
theorem Cur.setM {w : World} {g n c : Nat} {B : Option Addr} {bs : List Int} (h : Cur w g B n c bs) {p : Addr} (hp : g < p.block) (u : Value) : Cur (w.setCell p u) g B n c bs :=
  h.grown (grown_setCell w p u) (fun k e => by injection e with e; omega)
set_option maxRecDepth 100000 in
theorem RB.belowM {w w' : World} {B : Option Addr} {n b : Nat} {bs : List Int} (h : RB w B n bs) (hb : Below b w w') (hlow : ∀ ad, B = some ad → ad.block < b) : RB w' B n bs := by
  rcases Nat.eq_zero_or_pos n with h0 | h0
  · exact ⟨h.1, fun h1 => absurd h1 (by omega)⟩
  · obtain ⟨ad, rfl, _, _⟩ := h.2 h0
    exact h.keep hb.size fun p _ he => hb.cell (by rw [he ad rfl]; exact hlow ad rfl)
set_option maxRecDepth 100000 in
theorem Cur.belowM {w w' : World} {g n c b : Nat} {B : Option Addr} {bs : List Int} (h : Cur w g B n c bs) (hb : Below b w w') (hg : g < b) : Cur w' g B n c bs := by
  obtain ⟨i, h', hk, hi⟩ := h.blk
  exact ⟨⟨i, h', hk.below hb hg, hi⟩, h.bytes.belowM hb (fun ad e => by have := h.low ad e; omega), h.low, h.small⟩
set_option maxRecDepth 100000 in
theorem gb_belowM {w V w' : World} {row : Option Nat} (h : w.grownBy V row) (hb : Below w.heap.size V w') : w.grownBy w' row :=
  ⟨hb.os.trans h.os, hb.tape.trans h.tape, hb.output.trans h.output, Nat.le_trans h.size hb.size, fun i hi hne => (hb.block i hi).trans (h.block i hi hne)⟩
/-- Intervals in a box while they are drawn. -/
structure MB (w : World) (g : Nat) (B : Option Addr) (n c : Nat) (bs : List Int) (gr gb : Nat) (A : Option Addr) (na ca : Nat) (L : List Int) (C : Option Addr) (nc cc : Nat) (R : List Int) (wr : World) : Prop where
  cur : Cur wr g B n c bs
  res : Blk wr gr 31 #[.slice none 0 0, .slice none 0 0]
  box : Blk wr gb 31 #[.slice A na ca, .slice C nc cc]
  a : OwnI wr w.heap.size A na ca L
  b : OwnI wr w.heap.size C nc cc R
  apart : ∀ j, (Value.slice A na ca).ownBlock = some j → (Value.slice C nc cc).ownBlock ≠ some j
  gby : w.grownBy wr (some g)
  low : g < w.heap.size
  hgr : w.heap.size ≤ gr
  hgb : w.heap.size ≤ gb
  ne : gr ≠ gb
section
variable {w wr w' : World} {g n c gr gb na ca nc cc : Nat} {B A C : Option Addr} {bs L R : List Int}
set_option maxRecDepth 100000 in
theorem MB.up (I : MB w g B n c bs gr gb A na ca L C nc cc R wr) (hb : Up wr w') : MB w g B n c bs gr gb A na ca L C nc cc R w' :=
  ⟨I.cur.up hb, I.res.up hb, I.box.up hb, I.a.up hb, I.b.up hb, I.apart, gbm_up I.gby hb, I.low, I.hgr, I.hgb, I.ne⟩
set_option maxRecDepth 100000 in
theorem MB.dr (I : MB w g B n c bs gr gb A na ca L C nc cc R wr) (hC : Cur w' g B n c bs) (hg : wr.grownBy w' (some g)) : MB w g B n c bs gr gb A na ca L C nc cc R w' :=
  ⟨hC, I.res.grown hg (fun e => by injection e with e; have := I.low; have := I.hgr; omega), I.box.grown hg (fun e => by injection e with e; have := I.low; have := I.hgb; omega), I.a.far_gb hg I.low, I.b.far_gb hg I.low, I.apart, gb_trans I.gby hg, I.low, I.hgr, I.hgb, I.ne⟩
set_option maxRecDepth 100000 in
theorem MB.two (I : MB w g B n c bs gr gb A na ca L C nc cc R wr) : Two wr (Value.slice A na ca).ownBlock (Value.slice C nc cc).ownBlock w.heap.size 3 3 A na ca (L.map (Value.int .i64)) C nc cc (R.map (Value.int .i64)) wr := Two.start I.a I.b I.apart
set_option maxRecDepth 100000 in
theorem MB.box_of {A' C' : Option Addr} {n1 c1 n2 c2 : Nat} {xs ys : List Value} (I : MB w g B n c bs gr gb A na ca L C nc cc R wr) (T : Two wr (Value.slice A na ca).ownBlock (Value.slice C nc cc).ownBlock w.heap.size 3 3 A' n1 c1 xs C' n2 c2 ys w') : Blk w' gb 31 #[.slice A na ca, .slice C nc cc] :=
  T.blk I.box (Ne.symm (own_blk_ne (e := 3) I.a I.box (by decide))) (Ne.symm (own_blk_ne (e := 3) I.b I.box (by decide)))
set_option maxRecDepth 100000 in
theorem MB.pushed {A' C' : Option Addr} {n1 c1 n2 c2 k : Nat} {xs ys : List Int} {u : Value} (I : MB w g B n c bs gr gb A na ca L C nc cc R wr) (T : Two wr (Value.slice A na ca).ownBlock (Value.slice C nc cc).ownBlock w.heap.size 3 3 A' n1 c1 (xs.map (Value.int .i64)) C' n2 c2 (ys.map (Value.int .i64)) w')
    (hbox : (#[Value.slice A na ca, .slice C nc cc] : Array Value).setIfInBounds k u = #[.slice A' n1 c1, .slice C' n2 c2]) : MB w g B n c bs gr gb A' n1 c1 xs C' n2 c2 ys (w'.setCell ⟨gb, k, none⟩ u) := by
  have hna : some gr ≠ (Value.slice A na ca).ownBlock := Ne.symm (own_blk_ne (e := 3) I.a I.res (by decide))
  have hnb : some gr ≠ (Value.slice C nc cc).ownBlock := Ne.symm (own_blk_ne (e := 3) I.b I.res (by decide))
  have hbk := I.box_of T
  have hbel : Below w.heap.size wr w' := T.below (Below.refl _ _) (fun k e => (I.a.block k e).1) (fun k e => (I.b.block k e).1) I.gby.size
  have hlow := I.low
  have hgb := I.hgb
  have ha : OwnI w' w.heap.size A' n1 c1 xs := T.a
  have hb : OwnI w' w.heap.size C' n2 c2 ys := T.b
  exact ⟨(I.cur.belowM hbel hlow).setM (p := ⟨gb, k, none⟩) (by show g < gb; omega) u, (T.blk I.res hna hnb).far (p := ⟨gb, k, none⟩) I.ne u, by rw [← hbox]; exact hbk.set_ k u, ha.other_store (i := k) hbk (by decide) u, hb.other_store (i := k) hbk (by decide) u, T.ne, gbm_set (gb_belowM I.gby hbel) (p := ⟨gb, k, none⟩) hgb u, hlow, I.hgr, hgb, I.ne⟩
end
/-- Numbers that can be read, not below base. -/
def RF (w : World) (base : Nat) (A : Option Addr) (n : Nat) (xs : List Int) : Prop := RI w A n xs ∧ ∀ ad, A = some ad → 0 < n → base ≤ ad.block
set_option maxRecDepth 100000 in
theorem RF.up {w w' : World} {base n : Nat} {A : Option Addr} {xs : List Int} (h : RF w base A n xs) (hb : Up w w') : RF w' base A n xs := ⟨h.1.up hb, h.2⟩
set_option maxRecDepth 100000 in
theorem RF.more {w : World} {base base' n : Nat} {A : Option Addr} {xs : List Int} (h : RF w base A n xs) (hb : base' ≤ base) : RF w base' A n xs := ⟨h.1, fun ad e h0 => Nat.le_trans hb (h.2 ad e h0)⟩
set_option maxRecDepth 100000 in
theorem RF.gb {w w' : World} {base n g : Nat} {A : Option Addr} {xs : List Int} (h : RF w base A n xs) (hg : w.grownBy w' (some g)) (hlt : g < base) : RF w' base A n xs := by
  refine ⟨?_, h.2⟩
  rcases Nat.eq_zero_or_pos n with h0 | h0
  · exact ⟨h.1.1, fun h1 => absurd h1 (by omega)⟩
  · exact h.1.grown hg fun ad e e2 => by
      have := h.2 ad e h0
      injection e2 with e2
      omega
set_option maxRecDepth 100000 in
theorem RF.set {w : World} {base n : Nat} {A : Option Addr} {xs : List Int} (h : RF w base A n xs) {p : Addr} (hp : p.block < base) (u : Value) : RF (w.setCell p u) base A n xs := h.gb (grown_setCell w p u) hp
set_option maxRecDepth 100000 in
theorem OwnI.rf {w : World} {base n c : Nat} {A : Option Addr} {xs : List Int} (h : OwnI w base A n c xs) : RF w base A n xs := ⟨h.ri, fun ad e h0 => by
  obtain ⟨g, e2⟩ := h.form h0
  rw [e2] at e
  injection e with e
  subst e
  exact (h.block g (by rw [e2]; rfl)).1⟩
set_option maxRecDepth 100000 in
theorem RI.dropS9 {w : World} {g n k : Nat} {xs : List Int} (h : RI w (some ⟨g, 0, none⟩) n xs) (hk : k ≤ n) : RI w (some ⟨g, k, none⟩) (n - k) (xs.drop k) := by
  refine ⟨by rw [List.length_drop, h.1], fun hn => ⟨_, rfl, fun j hj => ?_⟩⟩
  obtain ⟨ad, e, _, hc⟩ := h.at_ (k := k + j) (by omega)
  injection e with e
  subst e
  have e1 : (⟨g, k, none⟩ : Addr).add j = ⟨g, k + j, none⟩ := by unfold Addr.add; split <;> simp_all
  rw [add_0_] at hc
  rw [e1, hc]
  simp [List.getD]
/-- Drawn intervals: at most six on either side. -/
def Mv (base : Nat) (v : Value) (w' : World) : Prop := ∃ A na ca C nc cc L R, v = .agg #[.slice A na ca, .slice C nc cc] ∧ RF w' base A na L ∧ RF w' base C nc R ∧ na ≤ 6 ∧ nc ≤ 6
set_option maxRecDepth 100000 in
theorem finM {w wr : World} {g n c gr na ca nc cc : Nat} {B A C : Option Addr} {bs L R : List Int} {x y X Y : Value} (hr : Blk wr gr 31 #[x, y]) (ha : OwnI wr w.heap.size A na ca L) (hb : OwnI wr w.heap.size C nc cc R) (hC : Cur wr g B n c bs) (hg : w.grownBy wr (some g)) (hgr : w.heap.size ≤ gr) (hlow : g < w.heap.size) :
    OwnI ((wr.setCell ⟨gr, 0, none⟩ X).setCell ⟨gr, 1, none⟩ Y) w.heap.size A na ca L ∧ OwnI ((wr.setCell ⟨gr, 0, none⟩ X).setCell ⟨gr, 1, none⟩ Y) w.heap.size C nc cc R ∧ Cur ((wr.setCell ⟨gr, 0, none⟩ X).setCell ⟨gr, 1, none⟩ Y) g B n c bs ∧ w.grownBy ((wr.setCell ⟨gr, 0, none⟩ X).setCell ⟨gr, 1, none⟩ Y) (some g) ∧
      (((wr.setCell ⟨gr, 0, none⟩ X).setCell ⟨gr, 1, none⟩ Y).cell? ⟨gr, 0, none⟩ = some X ∧ ((wr.setCell ⟨gr, 0, none⟩ X).setCell ⟨gr, 1, none⟩ Y).cell? ⟨gr, 1, none⟩ = some Y) :=
  ⟨(ha.other_store (i := 0) hr (by decide) _).other_store (i := 1) (hr.set_ 0 _) (by decide) _, (hb.other_store (i := 0) hr (by decide) _).other_store (i := 1) (hr.set_ 0 _) (by decide) _,
    (hC.setM (p := ⟨gr, 0, none⟩) (by show g < gr; omega) _).setM (p := ⟨gr, 1, none⟩) (by show g < gr; omega) _, gbm_set (gbm_set hg (p := ⟨gr, 0, none⟩) hgr _) (p := ⟨gr, 1, none⟩) hgr _, ((hr.set_ 0 _).set_ 1 _).two⟩
set_option maxRecDepth 100000 in
theorem OwnI.cell0 {w : World} {base g n c : Nat} {xs : List Int} (h : OwnI w base (some ⟨g, 0, none⟩) n c xs) (hn : 0 < n) : w.cell? ⟨g, 0, none⟩ = some (.int .i64 (xs.getD 0 0)) := by
  obtain ⟨ad, e, _, hc⟩ := h.ri.at_ hn
  injection e with e
  subst e
  exact hc
set_option maxRecDepth 100000 in
theorem OwnI.drop1 {w : World} {base g m c o : Nat} {xs : List Int} (h : OwnI w base (some ⟨g, 0, none⟩) m c xs) (hm : 0 < m) (ho : m = 1 ∨ o = 1) : RF w base (some ⟨g, o, none⟩) (m - 1) (xs.drop 1) := by
  have hl := h.len
  refine ⟨?_, fun ad e h0 => ?_⟩
  · rcases ho with rfl | rfl
    · have e : xs.drop 1 = [] := List.drop_eq_nil_of_le (by omega)
      rw [e]
      exact RI.nil_
    · have := (h.ri).dropS9 (k := 1) (by omega)
      exact this
  · injection e with e
    subst e
    exact (h.block g rfl).1
set_option maxRecDepth 100000 in
set_option maxHeartbeats 4000000 in
theorem l9Model_any {g : Nat} {B : Option Addr} {n c : Nat} {bs : List Int} {w : World} (hC : Cur w g B n c bs) :
    Calls Tryz.prog 113 #[.pointer (some ⟨g, 0, none⟩)] w (Dr g B n c bs w fun v w' => Mv w.heap.size v w') := by
  have hlow := hC.lt
  have I0 : MB w g B n c bs w.heap.size (w.heap.size + 1) none 0 0 [] none 0 0 [] ((w.alloc (.cells #[.slice none 0 0, .slice none 0 0] 31)).alloc (.cells #[.slice none 0 0, .slice none 0 0] 31)) := by
    have hu : Up w ((w.alloc (.cells #[.slice none 0 0, .slice none 0 0] 31)).alloc (.cells #[.slice none 0 0, .slice none 0 0] 31)) := by go_grown
    exact ⟨hC.up hu, (Blk.new w _ _).alloc _, Blk.new_at (by simp), OwnI.nil_ _ _, OwnI.nil_ _ _, fun j h => (by cases h), gb_of_up _ hu, hlow, Nat.le_refl _, by omega, by omega⟩
  go_enter Tryz.func113, Tryz.ntmps113
  have hy0 := I0.box.two
  have hf0 := I0.box.frozen 0
  have hf1 := I0.box.frozen 1
  go_wp2_with fail
  obtain ⟨gr, hgr⟩ : ∃ gr, gr = w.heap.size := ⟨_, rfl⟩
  obtain ⟨gb, hgb⟩ : ∃ gb, gb = w.heap.size + 1 := ⟨_, rfl⟩
  rw [← hgb] at I0 hy0 hf0 hf1 ⊢
  have I3 := I0
  rw [← hgr] at I3 ⊢
  clear I0 hy0 hf0 hf1 hgb hgr
  generalize (w.alloc (.cells #[.slice none 0 0, .slice none 0 0] 31)).alloc (.cells #[.slice none 0 0, .slice none 0 0] 31) = w0 at I3 ⊢
  refine (l1Once_any I3.cur 3 (by omega) (by omega)).mono ?_
  rintro e w1 ⟨v, rfl, ⟨unit, rfl⟩, hC1, hg1⟩
  replace I3 := I3.dr hC1 hg1
  clear hC1 hg1
  go_wp2_with fail
  refine (l1Below_any I3.cur 6 (by omega) (by omega)).mono ?_
  rintro e w2 ⟨v, rfl, ⟨x, rfl, hx⟩, hC2, hg2⟩
  replace I3 := I3.dr hC2 hg2
  clear hC2 hg2
  go_wp2_with fail
  go_loopw [5] (fun i wr => ∃ (k : Nat) (A : Option Addr) (ca : Nat) (L : List Int) (C : Option Addr) (cc : Nat) (R : List Int), L.length + k ≤ 6 ∧ 1 ≤ L.length + k ∧ R.length = L.length ∧ i = .int .i64 k ∧ MB w g B n c bs gr gb A L.length ca L C L.length cc R wr) (fun i _ => (intOf i).toNat)
  case atStart => exact ⟨1 + x, none, 0, [], none, 0, [], by simp; omega, by omega, rfl, by first | rfl | go_num | (show Value.int .i64 _ = Value.int .i64 _; congr 1; omega), I3⟩
  case round =>
    clear I3
    obtain ⟨k, A, ca, L, C, cc, R, hk6, hk1, hRL, rfl, I⟩ := hrel
    by_cases hk0 : 0 < k
    · go_wp2_with fail
      refine (l1Below_any I.cur 12 (by omega) (by omega)).mono ?_
      rintro e w2 ⟨v, rfl, ⟨a, rfl, ha⟩, hC2, hg2⟩
      have I2 := I.dr hC2 hg2
      clear I hC2 hg2
      have hs2 := I2.gby.size
      have hy2 := I2.box.two
      have hl2 := I2.box.lt
      have hcell := (Blk.new w2 3 #[.int .i64 (a : Int)]).one
      have IA := I2.up (w' := w2.alloc (.cells #[.int .i64 (a : Int)] 3)) (by go_grown)
      have TA := IA.two
      cases unit
      · go_wp2_with (at_builtin; refine wpList_pushA9 rfl (.tmp 20) (.tmp 22) rfl (a : Int) rfl TA ⟨w2.heap.size, 0, none⟩ rfl hcell (by omega) (by simp; omega) ?_; intro A5 c5 w5 T5; have hb5 := IA.box_of T5; have hx5 := hb5.two; have hf5 := hb5.frozen 0)
        have e5 : List.map (Value.int .i64) L ++ [.int .i64 (a : Int)] = List.map (Value.int .i64) (L ++ [(a : Int)]) := by rw [List.map_append]; rfl
        rw [e5] at T5
        have I6 := IA.pushed (k := 0) (u := .slice A5 (L.length + 1) c5) T5 rfl
        clear T5 hb5 hx5 hf5 e5 TA IA hcell hy2 I2 hl2 hs2
        generalize w5.setCell ⟨gb, 0, none⟩ (.slice A5 (L.length + 1) c5) = w6 at I6 ⊢
        have I6d := I6.up (w' := w6.drew) (Below.drew (Up.refl _))
        have hy6 := I6d.box.two
        have hs6 := I6d.gby.size
        go_region_law (first
          | (refine stepB_int rfl (.tmp 34) (.tmp 39) rfl (IntKind.i64.wrap ((a : Int) + (x7 : Int))) rfl T7 ⟨w7.heap.size, 0, none⟩ rfl hc7 (by omega) (by simp; omega) ?_; intro C8 c8 w8 T8 hg8; have hb8 := I7a.box_of T8; have hx8 := hb8.two; have hf8 := hb8.frozen 1)
          | (go_simp; go_at_call 106; refine (l1Below_any I6d.cur 6 (by omega) (by omega)).mono ?_; rintro e w7 ⟨v, rfl, ⟨x7, rfl, hx7⟩, hC7, hg7⟩; have I7 := I6d.dr hC7 hg7; have hs7 := I7.gby.size; have hy7 := I7.box.two; have I7a := I7.up (w' := w7.alloc (.cells #[.int .i64 (IntKind.i64.wrap ((a : Int) + (x7 : Int)))] 3)) (by go_grown); have hy7a := I7a.box.two; have T7 := I7a.two; have hc7 := (Blk.new w7 3 #[.int .i64 (IntKind.i64.wrap ((a : Int) + (x7 : Int)))]).one; go_wp2_with fail))
        all_goals
          have e8 : List.map (Value.int .i64) R ++ [.int .i64 (IntKind.i64.wrap ((a : Int) + (x7 : Int)))] = List.map (Value.int .i64) (R ++ [IntKind.i64.wrap ((a : Int) + (x7 : Int))]) := by rw [List.map_append]; rfl
          rw [e8] at T8
          have I8 := I7a.pushed (k := 1) (u := .slice C8 (L.length + 1) c8) T8 rfl
          clear T8 hb8 hx8 hf8 e8 T7 hc7 hy7a I7a hy7 I7 hg7 hC7 hy6 I6d I6 hg8
          generalize w8.setCell ⟨gb, 1, none⟩ (.slice C8 (L.length + 1) c8) = w9 at I8 ⊢
          obtain ⟨y, hy⟩ : ∃ y, y = IntKind.i64.wrap ((a : Int) + (x7 : Int)) := ⟨_, rfl⟩
          rw [← hy] at I8 ⊢
          clear hy
          go_wp2
          go_roundw
          case rel => exact ⟨k - 1, A5, c5, L ++ [(a : Int)], C8, c8, R ++ [y], by simp; omega, by simp; omega, by simp [hRL], by first | go_num | (show Value.int .i64 _ = Value.int .i64 _; congr 1; omega), by rw [show (L ++ [(a : Int)]).length = L.length + 1 by simp]; exact I8⟩
          case measure => simp [intOf]; omega
      · have e5 : List.map (Value.int .i64) L ++ [.int .i64 (a : Int)] = List.map (Value.int .i64) (L ++ [(a : Int)]) := by rw [List.map_append]; rfl
        have e8 : List.map (Value.int .i64) R ++ [.int .i64 ((a : Int) + 3)] = List.map (Value.int .i64) (R ++ [(a : Int) + 3]) := by rw [List.map_append]; rfl
        have E5 := Lib.hid e5
        have E8 := Lib.hid e8
        clear e5 e8
        go_wp2_with (at_builtin; first
          | (refine wpList_pushA9 rfl (.tmp 20) (.tmp 22) rfl (a : Int) rfl TA ⟨w2.heap.size, 0, none⟩ rfl hcell (by omega) (by simp; omega) ?_; intro A5 c5 w5 T5; have hb5 := IA.box_of T5; have hx5 := hb5.two; have hf5 := hb5.frozen 0; have T5' := T5; rw [E5.out] at T5'; have I6 := IA.pushed (k := 0) (u := .slice A5 (L.length + 1) c5) T5' rfl; clear T5'; have hs6 := I6.gby.size; have hy6 := I6.box.two; have hl6 := I6.box.lt; have hcell6 := cell_lit (w := w5.setCell ⟨gb, 0, none⟩ (.slice A5 (L.length + 1) c5)) (e := 3) (y := .int .i64 ((a : Int) + 3)) (g := w5.heap.size) (by simp); have IB := I6.up (w' := (w5.setCell ⟨gb, 0, none⟩ (.slice A5 (L.length + 1) c5)).alloc (.cells #[.int .i64 ((a : Int) + 3)] 3)) (by go_grown); have TB := IB.two)
          | (refine wpList_pushB9 rfl (.tmp 27) (.tmp 30) rfl ((a : Int) + 3) rfl TB ⟨w5.heap.size, 0, none⟩ rfl hcell6 (by omega) (by simp at hs6 ⊢; omega) ?_; intro C8 c8 w8 T8; have hb8 := IB.box_of T8; have hx8 := hb8.two; have hf8 := hb8.frozen 1))
        rw [E8.out] at T8
        have I8 := IB.pushed (k := 1) (u := .slice C8 (L.length + 1) c8) T8 rfl
        go_wp2
        go_roundw
        case rel => exact ⟨k - 1, A5, c5, L ++ [(a : Int)], C8, c8, R ++ [(a : Int) + 3], by simp; omega, by simp; omega, by simp [hRL], by first | go_num | (show Value.int .i64 _ = Value.int .i64 _; congr 1; omega), by rw [show (L ++ [(a : Int)]).length = L.length + 1 by simp]; exact I8⟩
        case measure => simp [intOf]; omega
    · obtain rfl : k = 0 := by omega
      go_wp2_with fail
      refine (l1Below_any I.cur 14 (by omega) (by omega)).mono ?_
      rintro e w2 ⟨v, rfl, ⟨y, rfl, hy⟩, hC2, hg2⟩
      have I2 := I.dr hC2 hg2
      clear I hC2 hg2
      have hgr := I2.hgr
      have hsz2 := I2.gby.size
      obtain ⟨gA, rfl⟩ := I2.a.form (by omega)
      obtain ⟨gC, rfl⟩ := I2.b.form (by omega)
      obtain ⟨m, hm⟩ : ∃ m, m = L.length := ⟨_, rfl⟩
      rw [← hm] at I2 hk6 hk1
      have hRm := Lib.hid (show R.length = m by omega)
      clear hRL hm
      by_cases hy0 : y = 0
      · subst hy0
        have hyb := I2.box.two
        have hU4 : Up w2 (w2.alloc (.cells #[.int .i64 (-1), .int .i64 99, .int .i64 100] 3)).drew := Below.drew (by go_grown)
        have hX4 : RI (w2.alloc (.cells #[.int .i64 (-1), .int .i64 99, .int .i64 100] 3)).drew (some ⟨w2.heap.size, 0, none⟩) 3 [-1, 99, 100] := RI.drew (Blk.ri (Blk.new w2 3 _) rfl)
        have hm0 : 0 < m := by omega
        have hgs := I2.cur.lt
        have hA0 : gA ≠ gb := fun e => own_blk_ne (e := 3) I2.a I2.box (by decide) (by rw [e]; rfl)
        have hA1 : gA ≠ gr := fun e => own_blk_ne (e := 3) I2.a I2.res (by decide) (by rw [e]; rfl)
        have hAw : w.heap.size ≤ gA := (I2.a.block gA rfl).1
        have hlb := I2.box.lt
        go_wp2_with fail
        go_region_with (refine (l1PickInt_any (I2.up hU4).cur hX4 (fun ad e => by injection e with e; subst e; show w2.heap.size ≠ g; omega) (by omega) (by omega)).mono ?_; rintro e w4 ⟨v, rfl, ⟨j, hj, rfl⟩, hC4, hg4⟩; obtain ⟨z, hz⟩ : ∃ z, z = ([-1, 99, 100] : List Int).getD j 0 := ⟨_, rfl⟩; rw [← hz]; clear hz hj; have I4 := (I2.up hU4).dr hC4 hg4; have hyb4 := I4.box.two; have hc4 := I4.a.cell0 hm0; have hf4 := I4.a.frz 0)
        all_goals
          have hbox5 := I4.box.far (p := ⟨gA, 0, none⟩) (fun e => hA0 e.symm) (.int .i64 z)
          have hres5 := I4.res.far (p := ⟨gA, 0, none⟩) (fun e => hA1 e.symm) (.int .i64 z)
          have ha5 := (I4.a.put 0 z).1
          have hb5 := I4.b.kept (grown_setCell w4 ⟨gA, 0, none⟩ (.int .i64 z)) (.inr (fun e => I4.apart gA rfl e))
          have hC5 := I4.cur.setM (p := ⟨gA, 0, none⟩) (by show g < gA; omega) (.int .i64 z)
          have hg5 := gbm_set I4.gby (p := ⟨gA, 0, none⟩) hAw (.int .i64 z)
          clear I4 hyb4 hc4 hf4 hC4 hg4 I2 hyb hU4 hX4
          generalize w4.setCell ⟨gA, 0, none⟩ (.int .i64 z) = w5 at hbox5 hres5 ha5 hb5 hC5 hg5 ⊢
          have hyb := hbox5.two
          have hf0 := hres5.frozen 0
          have hf1 := hres5.frozen 1
          have hyr := hres5.two
          obtain ⟨f1, f2, f3, f4, hfin⟩ := finM (X := .slice (some ⟨gA, 0, none⟩) m ca) (Y := .slice (some ⟨gC, 0, none⟩) m cc) hres5 ha5 hb5 hC5 hg5 hgr hlow
          clear hbox5 hres5 ha5 hb5 hC5 hg5
          go_wp2
          generalize (w5.setCell ⟨gr, 0, none⟩ (.slice (some ⟨gA, 0, none⟩) m ca)).setCell ⟨gr, 1, none⟩ (.slice (some ⟨gC, 0, none⟩) m cc) = Wf at f1 f2 f3 f4 hfin ⊢
          refine bodyPost_ret (v := .agg #[.slice (some ⟨gA, 0, none⟩) m ca, .slice (some ⟨gC, 0, none⟩) m cc]) ?_ rfl ?_
          · simp [results, Tryz.results113, go_sem, hfin]
          exact ⟨_, rfl, ⟨_, m, ca, _, m, cc, _, R, rfl, f1.rf, f2.rf, by omega, by omega⟩, f3, f4⟩
      · have hyb0 : ((y : Int) == 0) = false := by rw [beq_eq_false_iff_ne]; omega
        by_cases hy1 : y = 1
        · subst hy1
          have hcap := I2.b.cap
          by_cases hcc : cc = 1
          · subst hcc
            obtain rfl : m = 1 := by omega
            have hyb := I2.box.two
            have hlb := I2.box.lt
            have hfb := I2.box.frozen 1
            have hb3 := I2.box.set_ 1 (.slice (some ⟨gC, 0, none⟩) 0 0)
            have hr3 := I2.res.far (p := ⟨gb, 1, none⟩) I2.ne (.slice (some ⟨gC, 0, none⟩) 0 0)
            have hyb3 := hb3.two
            have hyr3 := hr3.two
            have hf0 := hr3.frozen 0
            have hf1 := hr3.frozen 1
            have ha3 := I2.a.other_store (i := 1) I2.box (by decide) (.slice (some ⟨gC, 0, none⟩) 0 0)
            have hbb3 := I2.b.other_store (i := 1) I2.box (by decide) (.slice (some ⟨gC, 0, none⟩) 0 0)
            have hC3 := I2.cur.setM (p := ⟨gb, 1, none⟩) (by have := I2.hgb; show g < gb; omega) (.slice (some ⟨gC, 0, none⟩) 0 0)
            have hg3 := gbm_set I2.gby (p := ⟨gb, 1, none⟩) I2.hgb (.slice (some ⟨gC, 0, none⟩) 0 0)
            obtain ⟨f1, f2, f3, f4, hfin⟩ := finM (X := .slice (some ⟨gA, 0, none⟩) 1 ca) (Y := .slice (some ⟨gC, 0, none⟩) 0 0) hr3 ha3 hbb3 hC3 hg3 hgr hlow
            clear ha3 hbb3 hC3 hg3 I2
            go_wp2_with fail
            generalize ((w2.setCell ⟨gb, 1, none⟩ (.slice (some ⟨gC, 0, none⟩) 0 0)).setCell ⟨gr, 0, none⟩ (.slice (some ⟨gA, 0, none⟩) 1 ca)).setCell ⟨gr, 1, none⟩ (.slice (some ⟨gC, 0, none⟩) 0 0) = Wf at f1 f2 f3 f4 hfin ⊢
            refine bodyPost_ret (v := .agg #[.slice (some ⟨gA, 0, none⟩) 1 ca, .slice (some ⟨gC, 0, none⟩) 0 0]) ?_ rfl ?_
            · simp [results, Tryz.results113, go_sem, hfin]
            exact ⟨_, rfl, ⟨_, 1, ca, _, 0, 0, L, R.drop 1, rfl, f1.rf, f2.drop1 (by omega) (by omega), by omega, by omega⟩, f3, f4⟩
          · have hyb := I2.box.two
            have hlb := I2.box.lt
            have hfb := I2.box.frozen 1
            have hb3 := I2.box.set_ 1 (.slice (some ⟨gC, 1, none⟩) (m - 1) (cc - 1))
            have hr3 := I2.res.far (p := ⟨gb, 1, none⟩) I2.ne (.slice (some ⟨gC, 1, none⟩) (m - 1) (cc - 1))
            have hyb3 := hb3.two
            have hyr3 := hr3.two
            have hf0 := hr3.frozen 0
            have hf1 := hr3.frozen 1
            have ha3 := I2.a.other_store (i := 1) I2.box (by decide) (.slice (some ⟨gC, 1, none⟩) (m - 1) (cc - 1))
            have hbb3 := I2.b.other_store (i := 1) I2.box (by decide) (.slice (some ⟨gC, 1, none⟩) (m - 1) (cc - 1))
            have hC3 := I2.cur.setM (p := ⟨gb, 1, none⟩) (by have := I2.hgb; show g < gb; omega) (.slice (some ⟨gC, 1, none⟩) (m - 1) (cc - 1))
            have hg3 := gbm_set I2.gby (p := ⟨gb, 1, none⟩) I2.hgb (.slice (some ⟨gC, 1, none⟩) (m - 1) (cc - 1))
            obtain ⟨f1, f2, f3, f4, hfin⟩ := finM (X := .slice (some ⟨gA, 0, none⟩) m ca) (Y := .slice (some ⟨gC, 1, none⟩) (m - 1) (cc - 1)) hr3 ha3 hbb3 hC3 hg3 hgr hlow
            clear ha3 hbb3 hC3 hg3 I2
            go_wp2_with fail
            generalize ((w2.setCell ⟨gb, 1, none⟩ (.slice (some ⟨gC, 1, none⟩) (m - 1) (cc - 1))).setCell ⟨gr, 0, none⟩ (.slice (some ⟨gA, 0, none⟩) m ca)).setCell ⟨gr, 1, none⟩ (.slice (some ⟨gC, 1, none⟩) (m - 1) (cc - 1)) = Wf at f1 f2 f3 f4 hfin ⊢
            refine bodyPost_ret (v := .agg #[.slice (some ⟨gA, 0, none⟩) m ca, .slice (some ⟨gC, 1, none⟩) (m - 1) (cc - 1)]) ?_ rfl ?_
            · simp [results, Tryz.results113, go_sem, hfin]
            exact ⟨_, rfl, ⟨_, m, ca, _, (m - 1), (cc - 1), L, R.drop 1, rfl, f1.rf, f2.drop1 (by omega) (by omega), by omega, by omega⟩, f3, f4⟩
        · have hyb1 : ((y : Int) == 1) = false := by rw [beq_eq_false_iff_ne]; omega
          have hyb := I2.box.two
          have hf0 := I2.res.frozen 0
          have hf1 := I2.res.frozen 1
          have hyr := I2.res.two
          obtain ⟨f1, f2, f3, f4, hfin⟩ := finM (X := .slice (some ⟨gA, 0, none⟩) m ca) (Y := .slice (some ⟨gC, 0, none⟩) m cc) I2.res I2.a I2.b I2.cur I2.gby I2.hgr I2.low
          clear I2
          go_wp2
          generalize (w2.setCell ⟨gr, 0, none⟩ (.slice (some ⟨gA, 0, none⟩) m ca)).setCell ⟨gr, 1, none⟩ (.slice (some ⟨gC, 0, none⟩) m cc) = Wf at f1 f2 f3 f4 hfin ⊢
          refine bodyPost_ret (v := .agg #[.slice (some ⟨gA, 0, none⟩) m ca, .slice (some ⟨gC, 0, none⟩) m cc]) ?_ rfl ?_
          · simp [results, Tryz.results113, go_sem, hfin]
          exact ⟨_, rfl, ⟨_, m, ca, _, m, cc, L, R, rfl, f1.rf, f2.rf, by omega, by omega⟩, f3, f4⟩
end Go.Proofs.YthncdjcmlpiebaaGreat
namespace Go.Proofs.YthncdjcmlpiebaaGreat
open Go.RowKit

set_option maxRecDepth 100000 in
set_option maxHeartbeats 400000 in
theorem implIsModel_any (A B : Option Addr) (n m ca cb : Nat) (L R : List Int) (w : World) (hL : RI w A n L) (hR : RI w B m R) (hn : n ≤ 1048576) (hm : m ≤ 1048576) :
    Calls Tryz.prog 75 #[.agg #[.slice A n ca, .slice B m cb]] w fun e w' => e = .returned (.bool (isModel L R)) ∧ Below w.heap.size w w' := by
  have hLL := Lib.hid hL.1
  have hRR := Lib.hid hR.1
  by_cases h7 : 1 ≤ n ∧ n ≤ 7
  · obtain ⟨h1, h2⟩ := h7
    by_cases hmn : m = n
    · subst hmn
      go_enter Tryz.func75, Tryz.ntmps75
      go_wp2_with (go_at_call 107; refine (within_any _ _ _ _).mono ?_; rintro e w' ⟨rfl, rfl⟩)
      go_loop [22] (fun i => ∃ k : Nat, k ≤ m ∧ i = .int .i64 k ∧ Hid (∀ j, j < k → mOk (L.getD j 0) (R.getD j 0) = true)) (fun i => m - (intOf i).toNat)
      case atStart => exact ⟨0, Nat.zero_le _, rfl, fun j h => absurd h (by omega)⟩
      case round =>
        obtain ⟨k, hk, rfl, hall⟩ := hrel
        by_cases hlt : k < m
        · obtain ⟨a, rfl, hca⟩ := hL.after hlt
          obtain ⟨b, rfl, hcb⟩ := hR.after hlt
          by_cases hok : 0 ≤ L[k]?.getD 0 ∧ L[k]?.getD 0 ≤ R[k]?.getD 0 ∧ R[k]?.getD 0 ≤ 99
          · go_wp2
            go_round
            case rel => exact ⟨k + 1, by omega, by go_num, fun j hj => by
              rcases Nat.lt_succ_iff_lt_or_eq.1 hj with h' | rfl
              · exact hall.out j h'
              · exact mOk_iff.2 hok⟩
            case measure => simp [intOf]; omega
          · have hno := isModel_false (L := L) (R := R) (j := k) (by rw [hLL.out]; exact hlt) (mOk_no hok)
            have Hno := Lib.hid hno
            clear hno
            go_wp2
            all_goals (go_ret; exact ⟨ret_bool Hno.out.symm, by go_grown⟩)
        · obtain rfl : k = m := by omega
          go_wp2
          go_ret
          exact ⟨ret_bool (isModel_true (by rw [hLL.out]; omega) (by rw [hLL.out]; omega) (by rw [hLL.out, hRR.out]) (by rw [hLL.out]; exact hall.out)).symm, by go_grown⟩
    · have hne : ((m : Int) != n) = true := by simp; omega
      go_enter Tryz.func75, Tryz.ntmps75
      go_wp2_with (go_at_call 107; refine (within_any _ _ _ _).mono ?_; rintro e w' ⟨rfl, rfl⟩)
      go_ret
      exact ⟨ret_bool (isModel_len (by rw [hLL.out, hRR.out]; omega)).symm, by go_grown⟩
  · go_enter Tryz.func75, Tryz.ntmps75
    go_wp2_with (go_at_call 107; refine (within_any _ _ _ _).mono ?_; rintro e w' ⟨rfl, rfl⟩)
    go_ret
    exact ⟨ret_bool (isModel_len (by rw [hLL.out, hRR.out]; omega)).symm, by go_grown⟩
set_option maxRecDepth 100000 in
set_option maxHeartbeats 400000 in
theorem specIsModel_any (A B : Option Addr) (n m ca cb : Nat) (L R : List Int) (w : World) (hL : RI w A n L) (hR : RI w B m R) (hn : n ≤ 1048576) (hm : m ≤ 1048576) :
    Calls Tryz.prog 157 #[.agg #[.slice A n ca, .slice B m cb]] w fun e w' => e = .returned (.bool (isModel L R)) ∧ Below w.heap.size w w' := by
  have hLL := Lib.hid hL.1
  have hRR := Lib.hid hR.1
  go_enter Tryz.func157, Tryz.ntmps157
  go_wp2_with fail
  go_loopw [3] (fun i wr => ∃ k : Nat, k ≤ n ∧ k ≤ m ∧ i = .int .i64 k ∧ Blk wr w.heap.size 31 #[.slice A n ca, .slice B m cb] ∧ Below w.heap.size w wr ∧ Hid (∀ j, j < k → mOk (L.getD j 0) (R.getD j 0) = true)) (fun i _ => n - (intOf i).toNat)
  case atStart => exact ⟨0, Nat.zero_le _, Nat.zero_le _, rfl, Blk.new _ _ _, by go_grown, fun j h => absurd h (by omega)⟩
  case round =>
    obtain ⟨k, hk, hk', rfl, hblk, hb, hall⟩ := hrel
    obtain ⟨hx0, hx1⟩ := hblk.two
    by_cases hlt : k < n ∧ k < m
    · obtain ⟨hlt, hlt'⟩ := hlt
      obtain ⟨a, rfl, ha, hca⟩ := (hL.up hb).at_ hlt
      obtain ⟨b, rfl, hb', hcb⟩ := (hR.up hb).at_ hlt'
      by_cases hok : 0 ≤ L[k]?.getD 0 ∧ L[k]?.getD 0 ≤ R[k]?.getD 0 ∧ R[k]?.getD 0 ≤ 99
      · go_wp2_with fail
        go_quiet ((go_at_call 72; exact Calls.quiet_of_same (l1In_yes _ _ _ _ (by omega))))
        go_wp2
        go_roundw
        case rel => exact ⟨k + 1, by omega, by omega, by go_num, hblk.drewN _, below_drewN hb _, fun j hj => by
          rcases Nat.lt_succ_iff_lt_or_eq.1 hj with h' | rfl
          · exact hall.out j h'
          · exact mOk_iff.2 hok⟩
        case measure => simp [intOf]; omega
      · have Hno := Lib.hid (isModel_false (L := L) (R := R) (j := k) (by rw [hLL.out]; exact hlt) (mOk_no hok))
        by_cases h0 : 0 ≤ L[k]?.getD 0 ∧ L[k]?.getD 0 ≤ 99
        · go_wp2_with fail
          go_quiet ((go_at_call 72; first | exact Calls.quiet_of_same (l1In_yes _ _ _ _ (by omega)) | exact Calls.quiet_of_same (l1In_no _ _ _ _ (by omega))))
          go_wp2
          go_ret
          exact ⟨ret_bool Hno.out.symm, below_drewN hb _⟩
        · go_wp2_with fail
          go_quiet ((go_at_call 72; exact Calls.quiet_of_same (l1In_no _ _ _ _ (by omega))))
          go_wp2
          go_ret
          exact ⟨ret_bool Hno.out.symm, below_drewN hb _⟩
    · have hend : n ≤ k ∨ m ≤ k := by omega
      by_cases hmn : m = n
      · subst hmn
        by_cases h7 : 1 ≤ m ∧ m ≤ 7
        · have h7' : 1 ≤ (m : Int) ∧ (m : Int) ≤ 7 := by omega
          obtain rfl : k = m := by omega
          go_wp2_with (go_at_call 72; refine (l1In_yes _ _ _ _ h7').mono ?_; rintro e w' ⟨rfl, rfl⟩)
          go_ret
          exact ⟨ret_bool (isModel_true (by rw [hLL.out]; omega) (by rw [hLL.out]; omega) (by rw [hLL.out, hRR.out]) (by rw [hLL.out]; exact hall.out)).symm, hb⟩
        · have h7' : ¬ (1 ≤ (m : Int) ∧ (m : Int) ≤ 7) := by omega
          obtain rfl : k = m := by omega
          have Hno := Lib.hid (isModel_len (L := L) (R := R) (by rw [hLL.out, hRR.out]; omega))
          go_wp2_with (go_at_call 72; refine (l1In_no _ _ _ _ h7').mono ?_; rintro e w' ⟨rfl, rfl⟩)
          go_ret
          exact ⟨ret_bool Hno.out.symm, hb⟩
      · have Hno := Lib.hid (isModel_len (L := L) (R := R) (by rw [hLL.out, hRR.out]; omega))
        have hne : ((m : Int) == n) = false := by simp; omega
        by_cases hkn : k < n
        · go_wp2_with (go_at_call 72; refine (l1In_any _ _ _ _).mono ?_; rintro e w' ⟨rfl, rfl⟩)
          all_goals (go_ret; exact ⟨ret_bool Hno.out.symm, hb⟩)
        · go_wp2_with (go_at_call 72; refine (l1In_any _ _ _ _).mono ?_; rintro e w' ⟨rfl, rfl⟩)
          all_goals (go_ret; exact ⟨ret_bool Hno.out.symm, hb⟩)
end Go.Proofs.YthncdjcmlpiebaaGreat
