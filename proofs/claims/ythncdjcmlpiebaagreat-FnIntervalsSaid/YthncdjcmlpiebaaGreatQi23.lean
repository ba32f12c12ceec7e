/- Draws: graphs that may have a triple. What a draw of a graph and a list gives. Draws: a graph and an order. How long the lists are that the searches find. No program in sight. Draws: a graph and an order of cliques, or what stands against one. Draws: what the laws of cliques and of chordal graphs draw. Draws: what the laws of cliques and of chordal graphs draw besides. Draws of the law of interval graphs, simple ones. -/
import Derived.Test.YthncdjcmlpiebaaGreatQi04
import Derived.Test.YthncdjcmlpiebaaGreatQi07
import Derived.Test.YthncdjcmlpiebaaGreatQi08
import Derived.Test.YthncdjcmlpiebaaGreatQi12
import Derived.Test.YthncdjcmlpiebaaGreatQi18
import Derived.Test.YthncdjcmlpiebaaGreatQi21
import Derived.Test.YthncdjcmlpiebaaGreatQi22
import Derived.Deep.RegionWith
namespace Go.Proofs.YthncdjcmlpiebaaGreat
open Go.RowKit
/-- The edges of the long legs. -/
def la (k : Nat) : Nat := nb [0, 0, 0, 1, 2, 3] k
def lb (k : Nat) : Nat := k + 1
def legsK : Nat → List Nat
  | 0 => List.replicate 7 0
  | k + 1 => addE (legsK k) (la k) (lb k)
set_option maxRecDepth 100000 in
theorem legsK_six : legsK 6 = legs := by decide
set_option maxRecDepth 100000 in
theorem la_lt : ∀ k, k < 6 → la k < 7 ∧ lb k < 7 ∧ la k ≠ lb k := by decide
set_option maxRecDepth 100000 in
theorem legsK_ok : ∀ k, k ≤ 6 → GOk 7 (legsK k)
  | 0, _ => GOk.empty (by omega) (by omega)
  | k + 1, h => (legsK_ok k (by omega)).addE (la_lt k (by omega)).1 (la_lt k (by omega)).2.1 (la_lt k (by omega)).2.2
def addE7 (Q : List Nat) (v x : Nat) : List Nat := if v = x then Q else addE Q v x
set_option maxRecDepth 100000 in
theorem addEdge7 {ad : Addr} {c v x : Nat} {Q : List Nat} {w : World} (hX : RI w (some ad) 7 (ints Q)) (h : GOk 7 Q) (hv : v < 7) (hx : x < 7) :
    Calls Tryz.prog 152 #[.agg #[.int .i64 7, .slice (some ad) 7 c], .int .i64 v, .int .i64 x] w fun e w' => ∃ g d b, e = .returned (.tuple #[.agg #[.int .i64 7, .slice (some ⟨g, 0, none⟩) 7 d], .bool b]) ∧ OwnI w' w.heap.size (some ⟨g, 0, none⟩) 7 d (ints (addE7 Q v x)) ∧ Below w.heap.size w w' := by
  have key : ∀ (Q' : List Nat) (b : Bool) (e : Ending) (w' : World), GOk 7 Q' → GivesGB (7 : Nat) (ints Q') b w e w' → ∃ g d b, e = .returned (.tuple #[.agg #[.int .i64 7, .slice (some ⟨g, 0, none⟩) 7 d], .bool b]) ∧ OwnI w' w.heap.size (some ⟨g, 0, none⟩) 7 d (ints Q') ∧ Below w.heap.size w w' := by
    rintro Q' b e w' h' ⟨A, d, rfl, hown, hb⟩
    have e1 : (ints Q').length = 7 := by rw [ints_len, h'.len]
    rw [e1] at hown ⊢
    obtain ⟨g, rfl⟩ := hown.form (by omega)
    exact ⟨g, d, b, rfl, hown, hb⟩
  by_cases e : v = x
  · subst e
    have e2 : addE7 Q v v = Q := by rw [addE7, if_pos rfl]
    rw [e2]
    exact (addEdge_same ad 7 c v Q w hX h hv).mono fun e w' hg => key Q false e w' h hg
  · have e2 : addE7 Q v x = addE Q v x := by rw [addE7, if_neg e]
    rw [e2]
    exact (addEdge_ok ad 7 c v x Q w hX h hv hx e).mono fun e' w' hg => key _ _ e' w' (h.addE hv hx e) hg
set_option maxRecDepth 100000 in
theorem GX.put {w wr w' : World} {g n c gr gb m d m' d' : Nat} {B A A' : Option Addr} {bs X X' : List Int} {N : Int} (I : GX w g B n c bs gr gb N A m d X wr) (hb : Up wr w') (ho : OwnI w' wr.heap.size A' m' d' X') :
    GX w g B n c bs gr gb N A' m' d' X' ((w'.setCell ⟨gb, 0, none⟩ (.int .i64 N)).setCell ⟨gb, 1, none⟩ (.slice A' m' d')) := by
  have I2 := I.up hb
  have hlow := I.low
  have hgb := I.hgb
  have hne := I.ne
  have hs := I.gby.size
  have o1 := ho.other_store (i := 0) I2.box (by decide) (.int .i64 N)
  have o2 := o1.other_store (i := 1) (I2.box.set_ 0 (.int .i64 N)) (by decide) (.slice A' m' d')
  exact ⟨(I2.cur.set (p := ⟨gb, 0, none⟩) (by show g < gb; omega) _).set (p := ⟨gb, 1, none⟩) (by show g < gb; omega) _, (I2.res.far (p := ⟨gb, 0, none⟩) hne _).far (p := ⟨gb, 1, none⟩) hne _, (I2.box.set_ 0 _).set_ 1 _, o2.more hs,
    gb_set (gb_set I2.gby (p := ⟨gb, 0, none⟩) hgb _) (p := ⟨gb, 1, none⟩) hgb _, hlow, I.hgr, hgb, hne⟩
/-- The literal of edges. -/
structure LG (w : World) (b0 bt : Nat) : Prop where
  top : Blk w bt 24 #[.slice (some ⟨b0, 0, none⟩) 2 2, .slice (some ⟨b0 + 1, 0, none⟩) 2 2, .slice (some ⟨b0 + 2, 0, none⟩) 2 2, .slice (some ⟨b0 + 3, 0, none⟩) 2 2, .slice (some ⟨b0 + 4, 0, none⟩) 2 2, .slice (some ⟨b0 + 5, 0, none⟩) 2 2]
  row : ∀ k, k < 6 → Blk w (b0 + k) 3 #[.int .i64 (la k : Nat), .int .i64 (lb k : Nat)]
set_option maxRecDepth 100000 in
theorem LG.up {w w' : World} {b0 bt : Nat} (h : LG w b0 bt) (hb : Up w w') : LG w' b0 bt := ⟨h.top.up hb, fun k hk => (h.row k hk).up hb⟩
set_option maxRecDepth 100000 in
theorem LG.far {w : World} {b0 bt gb i : Nat} {cs : Array Value} (h : LG w b0 bt) (hb : Blk w gb 26 cs) (u : Value) : LG (w.setCell ⟨gb, i, none⟩ u) b0 bt :=
  ⟨h.top.far (p := ⟨gb, i, none⟩) (h.top.ne_ hb (by decide)) u, fun k hk => (h.row k hk).far (p := ⟨gb, i, none⟩) ((h.row k hk).ne_ hb (by decide)) u⟩
set_option maxRecDepth 100000 in
theorem LG.at_ {w : World} {b0 bt k : Nat} (h : LG w b0 bt) (hk : k < 6) : w.cell? ⟨bt, k, none⟩ = some (.slice (some ⟨b0 + k, 0, none⟩) 2 2) ∧ w.cell? ⟨b0 + k, 0, none⟩ = some (.int .i64 (la k : Nat)) ∧ w.cell? ⟨b0 + k, 1, none⟩ = some (.int .i64 (lb k : Nat)) := by
  refine ⟨?_, (h.row k hk).two⟩
  rw [h.top.cell]
  match k, hk with
  | 0, _ => rfl
  | 1, _ => rfl
  | 2, _ => rfl
  | 3, _ => rfl
  | 4, _ => rfl
  | 5, _ => rfl
set_option maxRecDepth 100000 in
theorem LG.make (w : World) (s : Nat) (hs : w.heap.size = s) : LG (((((((w.alloc (.cells #[.int .i64 0, .int .i64 1] 3)).alloc (.cells #[.int .i64 0, .int .i64 2] 3)).alloc (.cells #[.int .i64 0, .int .i64 3] 3)).alloc (.cells #[.int .i64 1, .int .i64 4] 3)).alloc (.cells #[.int .i64 2, .int .i64 5] 3)).alloc (.cells #[.int .i64 3, .int .i64 6] 3)).alloc
    (.cells #[.slice (some ⟨s, 0, none⟩) 2 2, .slice (some ⟨s + 1, 0, none⟩) 2 2, .slice (some ⟨s + 1 + 1, 0, none⟩) 2 2, .slice (some ⟨s + 1 + 1 + 1, 0, none⟩) 2 2, .slice (some ⟨s + 1 + 1 + 1 + 1, 0, none⟩) 2 2, .slice (some ⟨s + 1 + 1 + 1 + 1 + 1, 0, none⟩) 2 2] 24)) s (s + 1 + 1 + 1 + 1 + 1 + 1) := by
  subst hs
  refine ⟨Blk.new_at (by simp), fun k hk => ?_⟩
  match k, hk with
  | 0, _ => exact ((((((Blk.new_at rfl).alloc _).alloc _).alloc _).alloc _).alloc _).alloc _
  | 1, _ => exact (((((Blk.new_at (by simp)).alloc _).alloc _).alloc _).alloc _).alloc _
  | 2, _ => exact ((((Blk.new_at (by simp)).alloc _).alloc _).alloc _).alloc _
  | 3, _ => exact (((Blk.new_at (by simp)).alloc _).alloc _).alloc _
  | 4, _ => exact ((Blk.new_at (by simp)).alloc _).alloc _
  | 5, _ => exact (Blk.new_at (by simp)).alloc _
set_option maxRecDepth 100000 in
set_option maxHeartbeats 4000000 in
theorem l11Graph_any {g : Nat} {B : Option Addr} {n c : Nat} {bs : List Int} {w : World} (hC : Cur w g B n c bs) :
    Calls Tryz.prog 105 #[.pointer (some ⟨g, 0, none⟩)] w (Dr g B n c bs w fun v w' => Gv le6L w.heap.size v w') := by
  have hmk : ∀ w : World, (Instr.makeSlice 24 (.int .i64 7) (.int .i64 7)).run Tryz.prog w = .ok (.slice (some ⟨w.heap.size, 0, none⟩) 7 7) (w.alloc (.cells (zeros 7) 3)) := fun w => make_ints 7 (by omega) w
  have hlow := hC.lt
  have hU0 : Up w (w.alloc (.cells #[.int .i64 0, .slice none 0 0] 26)) := by go_grown
  have hR0 := Blk.new w 26 #[.int .i64 0, .slice none 0 0]
  have hC0 := hC.up hU0
  have hg0 := gb_of_up (some g) hU0
  obtain ⟨gr, hgr⟩ : ∃ gr, gr = w.heap.size := ⟨_, rfl⟩
  go_enter Tryz.func105, Tryz.ntmps105
  go_wp2_with fail
  refine (l1Once_any hC0 2 (by omega) (by omega)).mono ?_
  rintro e w1 ⟨v, rfl, ⟨b, rfl⟩, hC1, hg1⟩
  have hs1 := hg1.size
  try simp only [World.size_alloc] at hs1
  have hR1 := hR0.grown hg1 (fun e => by injection e with e; omega)
  have hG1 := gb_trans hg0 hg1
  rw [← hgr] at hR1 ⊢
  have hgr' : w.heap.size ≤ gr := by omega
  have hgl1 : gr < w1.heap.size := hR1.lt
  clear hR0 hC0 hg0 hg1 hU0 hC hgr
  cases b
  · have hz : Blk (w1.alloc (.cells (zeros 7) 3)) w1.heap.size 3 (natCells (List.replicate 7 0)) := by rw [natCells_zero]; exact Blk.new _ _ _
    have ho : OwnI (w1.alloc (.cells (zeros 7) 3)) w.heap.size (some ⟨w1.heap.size, 0, none⟩) 7 7 (ints (legsK 0)) := by
      have := hz.own (base := w.heap.size) (n := 7) (by omega) (by rw [natCells_size]; simp) (by unfold maxLen; omega)
      unfold OwnI; exact this
    have hUa : Up w1 (w1.alloc (.cells (zeros 7) 3)) := by go_grown
    have hUb : Up (w1.alloc (.cells (zeros 7) 3)) ((w1.alloc (.cells (zeros 7) 3)).alloc (.cells #[.int .i64 7, .slice (some ⟨w1.heap.size, 0, none⟩) 7 7] 26)) := by go_grown
    have I : GX w g B n c bs gr (w1.heap.size + 1) 7 (some ⟨w1.heap.size, 0, none⟩) 7 7 (ints (legsK 0)) ((w1.alloc (.cells (zeros 7) 3)).alloc (.cells #[.int .i64 7, .slice (some ⟨w1.heap.size, 0, none⟩) 7 7] 26)) :=
      ⟨(hC1.up hUa).up hUb, (hR1.up hUa).up hUb, Blk.new_at (by simp), ho.up hUb, gb_up (gb_up hG1 hUa) hUb, hlow, hgr', by omega, by omega⟩
    clear hC1 hR1 hG1 hUa hUb ho hz
    go_wp2_with fail
    obtain ⟨bt, hbt⟩ : ∃ bt, bt = w1.heap.size + 1 + 1 + 1 + 1 + 1 + 1 + 1 + 1 := ⟨_, rfl⟩
    rw [← hbt]
    obtain ⟨gb, hgb⟩ : ∃ gb, gb = w1.heap.size + 1 := ⟨_, rfl⟩
    rw [← hgb] at I ⊢
    have ebt : bt = gb + 1 + 1 + 1 + 1 + 1 + 1 + 1 := by omega
    have HEB := Lib.hid (And.intro ebt hgb)
    clear hbt ebt hgb
    go_loopw [5] (fun i wr => ∃ (k A d : Nat), k ≤ 6 ∧ i = .int .i64 k ∧ GX w g B n c bs gr gb 7 (some ⟨A, 0, none⟩) 7 d (ints (legsK k)) wr ∧ LG wr (gb + 1) bt) (fun i _ => 6 - (intOf i).toNat)
    case atStart => exact ⟨0, _, _, by omega, rfl, I.up (by go_grown), by rw [HEB.out.1]; exact LG.make _ _ (by have := HEB.out.2; simp; omega)⟩
    case round =>
      clear I hmk
      obtain ⟨k, A, d, hk6, rfl, I, G⟩ := hrel
      obtain ⟨wi, rfl⟩ : ∃ wi : World, wi = wr := ⟨_, rfl⟩
      by_cases hk : k < 6
      · obtain ⟨hc0, hc1, hc2⟩ := G.at_ hk
        obtain ⟨hv, hx, hvx⟩ := la_lt k hk
        have HGk := Lib.hid (legsK_ok k hk6)
        have HSt := Lib.hid (show addE7 (legsK k) (la k) (lb k) = legsK (k + 1) by rw [addE7, if_neg hvx]; rfl)
        obtain ⟨vv, hvv⟩ : ∃ vv, vv = la k := ⟨_, rfl⟩
        obtain ⟨xx, hxx⟩ : ∃ xx, xx = lb k := ⟨_, rfl⟩
        rw [← hvv] at hc1 hv HSt
        rw [← hxx] at hc2 hx HSt
        obtain ⟨br, hbr⟩ : ∃ br, br = gb + 1 + k := ⟨_, rfl⟩
        rw [← hbr] at hc0 hc1 hc2
        clear hvv hxx hvx hbr
        have hy := I.box.two
        go_wp2_with fail
        refine wp_region_still_any 13 #[true, true, true, true, true, true, true, true, true, true, true, true, true, false, false, false, false, false] (by kernel_rfl) (by kernel_rfl) ?_
        simp only [List.take_succ_cons, List.take_zero]
        repeat still_step
        refine wpStill_nil ?_
        refine wpAny_ready (rs := [13]) (by kernel_rfl) (by simp) ?_
        refine AllReady.cons rfl (fun K hK => ?_) AllReady.nil
        go_simp
        go_at_call 152
        refine (addEdge7 (I.own.drew.ri) HGk.out hv hx).mono ?_
        rintro e w9 ⟨g9, d9, f9, rfl, hO9, hb9⟩
        replace hb9 : Up wi w9 := Up.then_ (by go_grown) hb9
        replace hO9 : OwnI w9 wi.heap.size (some ⟨g9, 0, none⟩) 7 d9 (ints (addE7 (legsK k) vv xx)) := hO9
        have I9 := I.up hb9
        have hf9 := I9.box.frozen 0
        have hf91 := I9.box.frozen 1
        have hy9 := I9.box.two
        go_wp2_with fail
        try refine hK _ _ ?_
        try clear hK K
        (try simp only [List.getElem_toArray]); (try simp only [List.getElem_cons_succ]); (try simp only [List.getElem_cons_zero]); (try simp only [Act.put]); (try simp only [List.setIfInBounds_toArray]); (try simp only [List.set_cons_succ]); (try simp only [List.set_cons_zero])
        refine wpAny_take (i := 14) (v := ?_) rfl (by kernel_rfl) (by kernel_rfl) (by kernel_rfl) (fun _ _ _ h => h) (Or.inl ⟨by rfl, ?_⟩) ?_
        rotate_left
        · (intro w'; go_simp; try with_reducible rfl)
        (try simp only [List.getElem_toArray]); (try simp only [List.getElem_cons_succ]); (try simp only [List.getElem_cons_zero]); (try simp only [Act.put]); (try simp only [List.setIfInBounds_toArray]); (try simp only [List.set_cons_succ]); (try simp only [List.set_cons_zero])
        refine wpAny_take (i := 15) (v := ?_) rfl (by kernel_rfl) (by kernel_rfl) (by kernel_rfl) (fun _ _ _ h => h) (Or.inl ⟨by rfl, ?_⟩) ?_
        rotate_left
        · (intro w'; go_simp; try with_reducible rfl)
        (try simp only [List.getElem_toArray]); (try simp only [List.getElem_cons_succ]); (try simp only [List.getElem_cons_zero]); (try simp only [Act.put]); (try simp only [List.setIfInBounds_toArray]); (try simp only [List.set_cons_succ]); (try simp only [List.set_cons_zero])
        refine wpAny_take (i := 16) (v := ?_) rfl (by kernel_rfl) (by kernel_rfl) (by kernel_rfl) (fun _ _ _ h => h) (Or.inl ⟨by rfl, ?_⟩) ?_
        rotate_left
        · (intro w'; go_simp; try with_reducible rfl)
        (try simp only [List.getElem_toArray]); (try simp only [List.getElem_cons_succ]); (try simp only [List.getElem_cons_zero]); (try simp only [Act.put]); (try simp only [List.setIfInBounds_toArray]); (try simp only [List.set_cons_succ]); (try simp only [List.set_cons_zero])
        refine wpAny_ready (rs := [17]) (by kernel_rfl) (by simp) ?_
        refine AllReady.cons rfl (fun K hK => ?_) AllReady.nil
        go_simp
        refine hK _ _ ?_
        try clear hK K
        refine wpAny_done (by kernel_rfl) ?_ _
        have I10 := I.put hb9 hO9
        have G10 := ((G.up hb9).far (i := 0) I9.box (.int .i64 7)).far (i := 1) (I9.box.set_ 0 (.int .i64 7)) (.slice (some ⟨g9, 0, none⟩) 7 d9)
        rw [HSt.out] at I10
        clear I I9 G hf9 hf91 hy9 hy hO9 hb9 hc0 hc1 hc2
        go_wp2
        go_roundw
        case rel => exact ⟨k + 1, g9, d9, by omega, by go_num, I10, G10⟩
        case measure => simp [intOf]; omega
      · obtain rfl : k = 6 := by omega
        rw [legsK_six] at I
        clear G
        have hlg := I.low
        go_wp2_with fail
        refine (l1Below_any I.cur 7 (by omega) (by omega)).mono ?_
        rintro e w2 ⟨v, rfl, ⟨va, rfl, hva⟩, hC2, hg2⟩
        replace I := I.dr hC2 hg2
        clear hC2 hg2
        go_wp2_with fail
        refine (l1Below_any I.cur 7 (by omega) (by omega)).mono ?_
        rintro e w3 ⟨v, rfl, ⟨vb, rfl, hvb⟩, hC3, hg3⟩
        replace I := I.dr hC3 hg3
        clear hC3 hg3
        go_wp2_with fail
        refine (l1Once_any I.cur 2 (by omega) (by omega)).mono ?_
        rintro e w4 ⟨v, rfl, ⟨on, rfl⟩, hC4, hg4⟩
        replace I := I.dr hC4 hg4
        clear hC4 hg4
        cases on
        · have hy := I.box.two
          have hf0 := I.res.frozen 0
          have hf1 := I.res.frozen 1
          have hyr := I.res.two
          obtain ⟨f1, hfin⟩ := I.fin (P := le6L) (.inr ⟨rfl, legs, rfl, .inl rfl⟩)
          clear I
          go_wp2
          generalize (w4.setCell ⟨gr, 0, none⟩ (.int .i64 7)).setCell ⟨gr, 1, none⟩ (.slice (some ⟨A, 0, none⟩) 7 d) = Wf at f1 hfin ⊢
          refine bodyPost_ret (v := .agg #[.int .i64 7, .slice (some ⟨A, 0, none⟩) 7 d]) ?_ rfl ?_
          · simp [results, Tryz.results105, go_sem, hfin]
          exact f1
        · have hy := I.box.two
          have hlb := I.box.lt
          go_wp2_with fail
          refine (addEdge7 I.own.ri legs_ok hva hvb).mono ?_
          rintro e w9 ⟨g9, d9, f9, rfl, hO9, hb9⟩
          have I9 := I.up hb9
          have hf90 := I9.box.frozen 0
          have hf91 := I9.box.frozen 1
          have hy9 := I9.box.two
          have I10 := I.put hb9 hO9
          have hyb := I10.box.two
          have hfr0 := I10.res.frozen 0
          have hfr1 := I10.res.frozen 1
          have hyr := I10.res.two
          have HL : le6L 7 (ints (addE7 legs va vb)) := .inr ⟨rfl, addE7 legs va vb, rfl, by
            rw [addE7]
            split
            · exact .inl rfl
            · rename_i hne; exact .inr ⟨va, vb, hva, hvb, hne, rfl⟩⟩
          obtain ⟨f1, hfin⟩ := I10.fin (P := le6L) HL
          have hneg := I10.ne
          have hneg2 := Ne.symm I10.ne
          clear I I9 I10 hO9 hb9 hy
          go_wp2
          generalize (((w9.setCell ⟨gb, 0, none⟩ (.int .i64 7)).setCell ⟨gb, 1, none⟩ (.slice (some ⟨g9, 0, none⟩) 7 d9)).setCell ⟨gr, 0, none⟩ (.int .i64 7)).setCell ⟨gr, 1, none⟩ (.slice (some ⟨g9, 0, none⟩) 7 d9) = Wf at f1 hfin ⊢
          refine bodyPost_ret (v := .agg #[.int .i64 7, .slice (some ⟨g9, 0, none⟩) 7 d9]) ?_ rfl ?_
          · simp [results, Tryz.results105, go_sem, hfin]
          exact f1
  · clear hmk
    go_wp2_with fail
    refine (l10Graph_any hC1).mono ?_
    rintro e w2 ⟨v, rfl, ⟨N, A, m, d, X, rfl, ho, hX⟩, hC2, hg2⟩
    have hR2 := hR1.grown hg2 (fun e => by injection e with e; omega)
    have hG2 := gb_trans hG1 hg2
    have ho2 := ho.more (base' := w.heap.size) (by omega)
    have hyr := hR2.two
    have hf0 := hR2.frozen 0
    have hf1 := hR2.frozen 1
    obtain ⟨f1, hfin⟩ := finG (N := N) (P := le6L) hR2 ho2 (.inl hX) hC2 hG2 hgr' hlow
    clear hR2 ho2 ho hC2 hG2 hR1 hC1 hg2 hG1
    go_wp2
    generalize (w2.setCell ⟨gr, 0, none⟩ (.int .i64 N)).setCell ⟨gr, 1, none⟩ (.slice A m d) = Wf at f1 hfin ⊢
    refine bodyPost_ret (v := .agg #[.int .i64 N, .slice A m d]) ?_ rfl ?_
    · simp [results, Tryz.results105, go_sem, hfin]
    exact f1
end Go.Proofs.YthncdjcmlpiebaaGreat
namespace Go.Proofs.YthncdjcmlpiebaaGreat
open Go.RowKit
def BothP (P : Int → List Int → Prop) (w : World) (e : Ending) (w' : World) : Prop := ∃ N A m d X A' d' xs, e = .returned (.tuple #[.agg #[.int .i64 N, .slice A m d], .slice A' xs.length d']) ∧ OwnI w' w.heap.size A m d X ∧ P N X ∧ OwnI w' w.heap.size A' xs.length d' xs ∧ xs.length ≤ 127 ∧ Below w.heap.size w w'
end Go.Proofs.YthncdjcmlpiebaaGreat
namespace Go.Proofs.YthncdjcmlpiebaaGreat
open Go.RowKit
/-- A drawn graph in a box, the cursor and the result beside. -/
structure DB (w : World) (g : Nat) (B : Option Addr) (n c : Nat) (bs : List Int) (gr gb : Nat) (N : Int) (A : Option Addr) (m d : Nat) (X : List Int) (wr : World) : Prop where
  cur : Cur wr g B n c bs
  res : Blk wr gr 26 #[.int .i64 0, .slice none 0 0]
  box : Blk wr gb 26 #[.int .i64 N, .slice A m d]
  own : OwnI wr (g + 1) A m d X
  bel : Below w.heap.size w wr
  hgr : w.heap.size ≤ gr
  low : w.heap.size ≤ g
  ne : gr ≠ g
  hgb : g < gb
  ne2 : gr ≠ gb
section
variable {w wr w' : World} {g n c gr gb m d : Nat} {B A : Option Addr} {bs X : List Int} {N : Int}
set_option maxRecDepth 100000 in
theorem DB.up (I : DB w g B n c bs gr gb N A m d X wr) (hb : Up wr w') : DB w g B n c bs gr gb N A m d X w' :=
  ⟨I.cur.up hb, I.res.up hb, I.box.up hb, I.own.up hb, Up.then_ I.bel hb, I.hgr, I.low, I.ne, I.hgb, I.ne2⟩
set_option maxRecDepth 100000 in
theorem DB.dr (I : DB w g B n c bs gr gb N A m d X wr) (hC : Cur w' g B n c bs) (hg : wr.grownBy w' (some g)) : DB w g B n c bs gr gb N A m d X w' :=
  ⟨hC, I.res.grown hg (fun e => I.ne (by injection e)), I.box.grown hg (fun e => by injection e with e; have := I.hgb; omega), I.own.far_gb hg (by omega), I.bel.grown hg I.bel.size (fun k hk => by injection hk with hk; have := I.low; omega), I.hgr, I.low, I.ne, I.hgb, I.ne2⟩
set_option maxRecDepth 100000 in
/-- The box's fields go into the result. -/
theorem DB.fin (I : DB w g B n c bs gr gb N A m d X wr) : OwnI ((wr.setCell ⟨gr, 0, none⟩ (.int .i64 N)).setCell ⟨gr, 1, none⟩ (.slice A m d)) w.heap.size A m d X ∧ Below w.heap.size w ((wr.setCell ⟨gr, 0, none⟩ (.int .i64 N)).setCell ⟨gr, 1, none⟩ (.slice A m d)) ∧ Blk ((wr.setCell ⟨gr, 0, none⟩ (.int .i64 N)).setCell ⟨gr, 1, none⟩ (.slice A m d)) gr 26 #[.int .i64 N, .slice A m d] ∧
    ∀ (A' : Option Addr) (k d' : Nat) (xs : List Int), OwnI wr w.heap.size A' k d' xs → OwnI ((wr.setCell ⟨gr, 0, none⟩ (.int .i64 N)).setCell ⟨gr, 1, none⟩ (.slice A m d)) w.heap.size A' k d' xs :=
  ⟨((I.own.more (base' := w.heap.size) (by have := I.low; omega)).other_store (i := 0) I.res (by decide) _).other_store (i := 1) (I.res.set_ 0 _) (by decide) _, (I.bel.setCell (p := ⟨gr, 0, none⟩) I.hgr _).setCell (p := ⟨gr, 1, none⟩) I.hgr _, (I.res.set_ 0 _).set_ 1 _,
    fun _ _ _ _ ho => (ho.other_store (i := 0) I.res (by decide) _).other_store (i := 1) (I.res.set_ 0 _) (by decide) _⟩
end
end Go.Proofs.YthncdjcmlpiebaaGreat
namespace Go.Proofs.YthncdjcmlpiebaaGreat
theorem ivObs_len7 (N : Int) (X : List Int) : (optL (ivObsOf N X)).length ≤ 7 := by
  rcases hu : ivObsOf N X with _ | o
  · simp [optL, ints]
  · rw [optL, ints_len]
    show o.length ≤ 7
    rcases graph_cases N X with hg | ⟨n, Q, rfl, rfl, h⟩
    · rw [ivObsOf, holeOf_no hg, tripOf_no hg] at hu; cases hu
    · rw [ivObsOf, Option.or_eq_some_iff] at hu
      rcases hu with hu | ⟨_, hu⟩
      · have := (holeOf_some h hu).1.len
        have := h.le
        omega
      · obtain ⟨a, b, c, rfl, _⟩ := tripOf_some h hu
        simp
theorem ord_len7 (N : Int) (X : List Int) : (optL (ordOf N X)).length ≤ 7 := by
  rcases hu : ordOf N X with _ | o
  · simp [optL, ints]
  · obtain ⟨n, Q, _, _, h, _, hl⟩ := ordOf_co hu
    have := h.le
    rw [optL, ints_len]
    show o.length ≤ 7
    omega
theorem maxC_len (N : Int) (X : List Int) : (maxCliquesOf N X).length ≤ 127 := by
  rcases graph_cases N X with hg | ⟨n, Q, rfl, rfl, h⟩
  · rw [maxCliquesOf_no hg]; simp
  · rw [maxCliquesOf_ok h]
    have := maxK_len Q n (2 ^ n - 1)
    have := full_lt h.le
    exact Nat.le_trans (maxK_len Q n (2 ^ n - 1)) (full_lt h.le)
end Go.Proofs.YthncdjcmlpiebaaGreat
namespace Go.Proofs.YthncdjcmlpiebaaGreat
open Go.RowKit
set_option maxRecDepth 100000 in
set_option maxHeartbeats 4000000 in
theorem drawIsCliqueOrder_any (B : Option Addr) (n c : Nat) (bs : List Int) (w : World) (hB : RB w B n bs) (hn : n ≤ 1048576) (hlow : ∀ ad, B = some ad → ad.block < w.heap.size) :
    Calls Tryz.prog 49 #[.slice B n c] w (BothP le6 w) := by
  have hU0 : Up w (w.alloc (.cells #[.int .i64 0, .slice none 0 0] 26)) := by go_grown
  have hR0 := Blk.new w 26 #[.int .i64 0, .slice none 0 0]
  have hs0 : (w.alloc (.cells #[.int .i64 0, .slice none 0 0] 26)).heap.size = w.heap.size + 1 := by simp
  obtain ⟨gr, hgr⟩ : ∃ gr, gr = w.heap.size := ⟨_, rfl⟩
  go_enter Tryz.func49, Tryz.ntmps49
  go_wp2_with fail
  refine (l1New_any B n c bs _ (hB.up hU0) hn (fun ad e => by have := hlow ad e; omega)).mono ?_
  rintro e w1 ⟨g, rfl, hC1, hb1, hg1⟩
  have hR1 := hR0.up hb1
  have hU1 := Up.then_ hU0 hb1
  rw [← hgr] at hR1 ⊢
  have hgr' : w.heap.size ≤ gr := by omega
  have hne : gr ≠ g := by omega
  have hlg : w.heap.size ≤ g := by omega
  clear hgr hR0 hs0 hb1 hg1 hU0
  go_wp2_with fail
  refine (l10Graph_any hC1).mono ?_
  rintro e w2 ⟨v, rfl, ⟨N, A, m, d, X, rfl, ho, hX⟩, hC2, hg2⟩
  have hlt := hC1.lt
  have hs2 := hg2.size
  have hR2 := hR1.grown hg2 (fun e => hne (by injection e))
  have hU2 := hU1.grown hg2 hU1.size (fun k hk => by injection hk with hk; omega)
  have hU3 : Up w2 (w2.alloc (.cells #[.int .i64 N, .slice A m d] 26)) := by go_grown
  have hltr := hR2.lt
  have I : DB w g B n c bs gr w2.heap.size N A m d X (w2.alloc (.cells #[.int .i64 N, .slice A m d] 26)) :=
    ⟨hC2.up hU3, hR2.up hU3, Blk.new _ _ _, (ho.more (by omega)).up hU3, Up.then_ hU2 hU3, hgr', hlg, hne, by omega, by omega⟩
  clear hR1 hU1 hC1 hR2 hU2 hU3 hC2 hg2 ho hltr
  obtain ⟨gb, hgb⟩ : ∃ gb, gb = w2.heap.size := ⟨_, rfl⟩
  rw [← hgb] at I
  go_wp2_with fail
  rw [← hgb]
  generalize w2.alloc (.cells #[.int .i64 N, .slice A m d] 26) = w3 at I ⊢
  clear hgb hs2 hlt
  have hm64 : m ≤ 9223372036854775807 := by have := I.own.cap; omega
  have hle := ord_len7 N X
  have hlw := I.low
  have hy := I.box.two
  refine (specCliqueOrderOf_any N A m d X w3 I.own.ri hm64).mono ?_
  rintro e w4 ⟨A1, c1, rfl, hO1, hb4⟩
  obtain ⟨xs1, hxs1⟩ : ∃ xs1, xs1 = optL (ordOf N X) := ⟨_, rfl⟩
  obtain ⟨b1, hbb1⟩ : ∃ b1, b1 = (ordOf N X).isSome := ⟨_, rfl⟩
  rw [← hxs1] at hO1 hle ⊢
  rw [← hbb1]
  replace hO1 := hO1.more (base' := g + 1) (by have := I.cur.lt; omega)
  replace I := I.up hb4
  clear hb4 hxs1 hbb1 hy
  cases b1
  · clear hO1 hle
    have hy := I.box.two
    have hlb := I.box.lt
    have hgs := I.cur.lt
    have hyr := I.res.two
    have hf0 := I.res.frozen 0
    have hf1 := I.res.frozen 1
    obtain ⟨mc, hmc⟩ : ∃ mc, mc = ints (maxCliquesOf N X) := ⟨_, rfl⟩
    have hmcl : mc.length ≤ 127 := by rw [hmc, ints_len]; exact maxC_len N X
    have HM : ∀ w', RI w' A m X → Calls Tryz.prog 93 #[.agg #[.int .i64 N, .slice A m d]] w' (GivesI mc w') := fun w' h => by rw [hmc]; exact specMaximalCliques_any N A m d X w' h hm64
    clear hmc
    go_wp2_with fail
    go_region_with (refine (HM _ (I.up (Below.drew (Up.refl _))).own.ri).mono ?_; rintro e w8 ⟨A3, c3, rfl, hO3, hb8⟩; have I8 := (I.up (Below.drew (Up.refl _))).up hb8; have hy8 := I8.box.two; have hyr8 := I8.res.two; have hf80 := I8.res.frozen 0; have hf81 := I8.res.frozen 1)
    all_goals
      replace hO3 := hO3.more (base' := w.heap.size) (by have := I.bel.size; show w.heap.size ≤ w4.heap.size; omega)
      clear hy hyr hf0 hf1
      obtain ⟨f1, f2, f3, f4⟩ := I8.fin
      have f5 := f4 _ _ _ _ hO3
      have hfin := f3.two
      clear I8 I f3 f4 hO3 hyr8 hf80 hf81 hy8
      go_wp2
      generalize (w8.setCell ⟨gr, 0, none⟩ (.int .i64 N)).setCell ⟨gr, 1, none⟩ (.slice A m d) = Wf at f1 f2 f5 hfin ⊢
      refine bodyPost_ret (v := .tuple #[.agg #[.int .i64 N, .slice A m d], .slice A3 mc.length c3]) ?_ rfl ?_
      · simp [results, Tryz.results49, go_sem, hfin]
      exact ⟨N, A, m, d, X, A3, c3, mc, rfl, f1, hX, f5, by omega, f2⟩
  · go_wp2_with fail
    refine (l1Once_any I.cur 2 (by omega) (by omega)).mono ?_
    rintro e w5 ⟨v, rfl, ⟨q, rfl⟩, hC5, hg5⟩
    replace I := I.dr hC5 hg5
    replace hO1 := hO1.far_gb hg5 (by omega)
    clear hC5 hg5
    cases q
    · clear hO1 hle
      have hy := I.box.two
      have hlb := I.box.lt
      have hgs := I.cur.lt
      have hyr := I.res.two
      have hf0 := I.res.frozen 0
      have hf1 := I.res.frozen 1
      obtain ⟨mc, hmc⟩ : ∃ mc, mc = ints (maxCliquesOf N X) := ⟨_, rfl⟩
      have hmcl : mc.length ≤ 127 := by rw [hmc, ints_len]; exact maxC_len N X
      have HM : ∀ w', RI w' A m X → Calls Tryz.prog 93 #[.agg #[.int .i64 N, .slice A m d]] w' (GivesI mc w') := fun w' h => by rw [hmc]; exact specMaximalCliques_any N A m d X w' h hm64
      clear hmc
      go_wp2_with fail
      go_region_with (refine (HM _ (I.up (Below.drew (Up.refl _))).own.ri).mono ?_; rintro e w8 ⟨A3, c3, rfl, hO3, hb8⟩; have I8 := (I.up (Below.drew (Up.refl _))).up hb8; have hy8 := I8.box.two; have hyr8 := I8.res.two; have hf80 := I8.res.frozen 0; have hf81 := I8.res.frozen 1)
      all_goals
        replace hO3 := hO3.more (base' := w.heap.size) (by have := I.bel.size; show w.heap.size ≤ w5.heap.size; omega)
        clear hy hyr hf0 hf1
        obtain ⟨f1, f2, f3, f4⟩ := I8.fin
        have f5 := f4 _ _ _ _ hO3
        have hfin := f3.two
        clear I8 I f3 f4 hO3 hyr8 hf80 hf81 hy8
        go_wp2
        generalize (w8.setCell ⟨gr, 0, none⟩ (.int .i64 N)).setCell ⟨gr, 1, none⟩ (.slice A m d) = Wf at f1 f2 f5 hfin ⊢
        refine bodyPost_ret (v := .tuple #[.agg #[.int .i64 N, .slice A m d], .slice A3 mc.length c3]) ?_ rfl ?_
        · simp [results, Tryz.results49, go_sem, hfin]
        exact ⟨N, A, m, d, X, A3, c3, mc, rfl, f1, hX, f5, by omega, f2⟩
    · have hy := I.box.two
      have hlb := I.box.lt
      have hyr := I.res.two
      have hf0 := I.res.frozen 0
      have hf1 := I.res.frozen 1
      have hlow := I.low
      obtain ⟨f1, f2, f3, f4⟩ := I.fin
      have f5 := f4 _ _ _ _ (hO1.more (base' := w.heap.size) (by omega))
      have hfin := f3.two
      clear I hO1 f3 f4
      go_wp2
      generalize (w5.setCell ⟨gr, 0, none⟩ (.int .i64 N)).setCell ⟨gr, 1, none⟩ (.slice A m d) = Wf at f1 f2 f5 hfin ⊢
      refine bodyPost_ret (v := .tuple #[.agg #[.int .i64 N, .slice A m d], .slice A1 xs1.length c1]) ?_ rfl ?_
      · simp [results, Tryz.results49, go_sem, hfin]
      exact ⟨N, A, m, d, X, A1, c1, xs1, rfl, f1, hX, f5, by omega, f2⟩
set_option maxRecDepth 100000 in
set_option maxHeartbeats 4000000 in
theorem drawIsIntervalObstacle_any (B : Option Addr) (n c : Nat) (bs : List Int) (w : World) (hB : RB w B n bs) (hn : n ≤ 1048576) (hlow : ∀ ad, B = some ad → ad.block < w.heap.size) :
    Calls Tryz.prog 54 #[.slice B n c] w (BothP le6L w) := by
  have hU0 : Up w (w.alloc (.cells #[.int .i64 0, .slice none 0 0] 26)) := by go_grown
  have hR0 := Blk.new w 26 #[.int .i64 0, .slice none 0 0]
  have hs0 : (w.alloc (.cells #[.int .i64 0, .slice none 0 0] 26)).heap.size = w.heap.size + 1 := by simp
  obtain ⟨gr, hgr⟩ : ∃ gr, gr = w.heap.size := ⟨_, rfl⟩
  go_enter Tryz.func54, Tryz.ntmps54
  go_wp2_with fail
  refine (l1New_any B n c bs _ (hB.up hU0) hn (fun ad e => by have := hlow ad e; omega)).mono ?_
  rintro e w1 ⟨g, rfl, hC1, hb1, hg1⟩
  have hR1 := hR0.up hb1
  have hU1 := Up.then_ hU0 hb1
  rw [← hgr] at hR1 ⊢
  have hgr' : w.heap.size ≤ gr := by omega
  have hne : gr ≠ g := by omega
  have hlg : w.heap.size ≤ g := by omega
  clear hgr hR0 hs0 hb1 hg1 hU0
  go_wp2_with fail
  refine (l11Graph_any hC1).mono ?_
  rintro e w2 ⟨v, rfl, ⟨N, A, m, d, X, rfl, ho, hX⟩, hC2, hg2⟩
  have hlt := hC1.lt
  have hs2 := hg2.size
  have hR2 := hR1.grown hg2 (fun e => hne (by injection e))
  have hU2 := hU1.grown hg2 hU1.size (fun k hk => by injection hk with hk; omega)
  have hU3 : Up w2 (w2.alloc (.cells #[.int .i64 N, .slice A m d] 26)) := by go_grown
  have hltr := hR2.lt
  have I : DB w g B n c bs gr w2.heap.size N A m d X (w2.alloc (.cells #[.int .i64 N, .slice A m d] 26)) :=
    ⟨hC2.up hU3, hR2.up hU3, Blk.new _ _ _, (ho.more (by omega)).up hU3, Up.then_ hU2 hU3, hgr', hlg, hne, by omega, by omega⟩
  clear hR1 hU1 hC1 hR2 hU2 hU3 hC2 hg2 ho hltr
  obtain ⟨gb, hgb⟩ : ∃ gb, gb = w2.heap.size := ⟨_, rfl⟩
  rw [← hgb] at I
  go_wp2_with fail
  rw [← hgb]
  generalize w2.alloc (.cells #[.int .i64 N, .slice A m d] 26) = w3 at I ⊢
  clear hgb hs2 hlt
  have hm64 : m ≤ 9223372036854775807 := by have := I.own.cap; omega
  have hle := ivObs_len7 N X
  have hlw := I.low
  have hy := I.box.two
  refine (specIntervalObstacle_any N A m d X w3 I.own.ri hm64).mono ?_
  rintro e w4 ⟨A1, c1, rfl, hO1, hb4⟩
  obtain ⟨xs1, hxs1⟩ : ∃ xs1, xs1 = optL (ivObsOf N X) := ⟨_, rfl⟩
  obtain ⟨b1, hbb1⟩ : ∃ b1, b1 = (ivObsOf N X).isSome := ⟨_, rfl⟩
  rw [← hxs1] at hO1 hle ⊢
  rw [← hbb1]
  replace hO1 := hO1.more (base' := g + 1) (by have := I.cur.lt; omega)
  replace I := I.up hb4
  clear hb4 hxs1 hbb1 hy
  cases b1
  · clear hO1 hle
    have hy := I.box.two
    have hlb := I.box.lt
    have hgs := I.cur.lt
    have hyr := I.res.two
    have hf0 := I.res.frozen 0
    have hf1 := I.res.frozen 1
    go_wp2_with fail
    go_region_with (refine (l4List_any (I.up (Below.drew (Up.refl _))).cur N A m d).mono ?_; rintro e w8 ⟨v, rfl, ⟨A3, c3, xs3, rfl, hO3, hl3⟩, hC8, hg8⟩; have I8 := (I.up (Below.drew (Up.refl _))).dr hC8 hg8; have hy8 := I8.box.two; have hyr8 := I8.res.two; have hf80 := I8.res.frozen 0; have hf81 := I8.res.frozen 1)
    all_goals
      replace hO3 := hO3.more (base' := w.heap.size) (by have := I.bel.size; show w.heap.size ≤ w4.heap.size; omega)
      clear hy hyr hf0 hf1
      obtain ⟨f1, f2, f3, f4⟩ := I8.fin
      have f5 := f4 _ _ _ _ hO3
      have hfin := f3.two
      clear I8 I f3 f4 hO3 hyr8 hf80 hf81 hy8
      go_wp2
      generalize (w8.setCell ⟨gr, 0, none⟩ (.int .i64 N)).setCell ⟨gr, 1, none⟩ (.slice A m d) = Wf at f1 f2 f5 hfin ⊢
      refine bodyPost_ret (v := .tuple #[.agg #[.int .i64 N, .slice A m d], .slice A3 xs3.length c3]) ?_ rfl ?_
      · simp [results, Tryz.results54, go_sem, hfin]
      exact ⟨N, A, m, d, X, A3, c3, xs3, rfl, f1, hX, f5, by omega, f2⟩
  · go_wp2_with fail
    refine (l1Once_any I.cur 3 (by omega) (by omega)).mono ?_
    rintro e w5 ⟨v, rfl, ⟨q, rfl⟩, hC5, hg5⟩
    replace I := I.dr hC5 hg5
    replace hO1 := hO1.far_gb hg5 (by omega)
    clear hC5 hg5
    cases q
    · have hy := I.box.two
      have hlb := I.box.lt
      have hyr := I.res.two
      have hf0 := I.res.frozen 0
      have hf1 := I.res.frozen 1
      have hlow := I.low
      obtain ⟨f1, f2, f3, f4⟩ := I.fin
      have f5 := f4 _ _ _ _ (hO1.more (base' := w.heap.size) (by omega))
      have hfin := f3.two
      clear I hO1 f3 f4
      go_wp2
      generalize (w5.setCell ⟨gr, 0, none⟩ (.int .i64 N)).setCell ⟨gr, 1, none⟩ (.slice A m d) = Wf at f1 f2 f5 hfin ⊢
      refine bodyPost_ret (v := .tuple #[.agg #[.int .i64 N, .slice A m d], .slice A1 xs1.length c1]) ?_ rfl ?_
      · simp [results, Tryz.results54, go_sem, hfin]
      exact ⟨N, A, m, d, X, A1, c1, xs1, rfl, f1, hX, f5, by omega, f2⟩
    · clear hO1 hle
      have hy := I.box.two
      have hlb := I.box.lt
      have hgs := I.cur.lt
      have hyr := I.res.two
      have hf0 := I.res.frozen 0
      have hf1 := I.res.frozen 1
      go_wp2_with fail
      go_region_with (refine (l4List_any (I.up (Below.drew (Up.refl _))).cur N A m d).mono ?_; rintro e w8 ⟨v, rfl, ⟨A3, c3, xs3, rfl, hO3, hl3⟩, hC8, hg8⟩; have I8 := (I.up (Below.drew (Up.refl _))).dr hC8 hg8; have hy8 := I8.box.two; have hyr8 := I8.res.two; have hf80 := I8.res.frozen 0; have hf81 := I8.res.frozen 1)
      all_goals
        replace hO3 := hO3.more (base' := w.heap.size) (by have := I.bel.size; show w.heap.size ≤ w5.heap.size; omega)
        clear hy hyr hf0 hf1
        obtain ⟨f1, f2, f3, f4⟩ := I8.fin
        have f5 := f4 _ _ _ _ hO3
        have hfin := f3.two
        clear I8 I f3 f4 hO3 hyr8 hf80 hf81 hy8
        go_wp2
        generalize (w8.setCell ⟨gr, 0, none⟩ (.int .i64 N)).setCell ⟨gr, 1, none⟩ (.slice A m d) = Wf at f1 f2 f5 hfin ⊢
        refine bodyPost_ret (v := .tuple #[.agg #[.int .i64 N, .slice A m d], .slice A3 xs3.length c3]) ?_ rfl ?_
        · simp [results, Tryz.results54, go_sem, hfin]
        exact ⟨N, A, m, d, X, A3, c3, xs3, rfl, f1, hX, f5, by omega, f2⟩
end Go.Proofs.YthncdjcmlpiebaaGreat
namespace Go.Proofs.YthncdjcmlpiebaaGreat
open Go.RowKit
/-- A graph of the call's own. -/
def DG (P : Int → List Int → Prop) (w : World) (e : Ending) (w' : World) : Prop := ∃ N A m d X, e = .returned (.agg #[.int .i64 N, .slice A m d]) ∧ OwnI w' w.heap.size A m d X ∧ P N X ∧ Below w.heap.size w w'
end Go.Proofs.YthncdjcmlpiebaaGreat
namespace Go.Proofs.YthncdjcmlpiebaaGreat
open Go.RowKit
end Go.Proofs.YthncdjcmlpiebaaGreat
namespace Go.Proofs.YthncdjcmlpiebaaGreat
open Go.RowKit
set_option maxRecDepth 100000 in
theorem drawIsInterval_any (B : Option Addr) (n c : Nat) (bs : List Int) (w : World) (hB : RB w B n bs) (hn : n ≤ 1048576) (hlow : ∀ ad, B = some ad → ad.block < w.heap.size) :
    Calls Tryz.prog 29 #[.slice B n c] w (DG le6 w) := by
  have hU0 : Up w (w.alloc (.cells #[.int .i64 0, .slice none 0 0] 26)) := by go_grown
  have hR0 := Blk.new w 26 #[.int .i64 0, .slice none 0 0]
  have hs0 : (w.alloc (.cells #[.int .i64 0, .slice none 0 0] 26)).heap.size = w.heap.size + 1 := by simp
  obtain ⟨gr, hgr⟩ : ∃ gr, gr = w.heap.size := ⟨_, rfl⟩
  go_enter Tryz.func29, Tryz.ntmps29
  go_wp2_with fail
  refine (l1New_any B n c bs _ (hB.up hU0) hn (fun ad e => by have := hlow ad e; omega)).mono ?_
  rintro e w1 ⟨g, rfl, hC1, hb1, hg1⟩
  have hR1 := hR0.up hb1
  have hU1 := Up.then_ hU0 hb1
  rw [← hgr] at hR1 ⊢
  have hgr' : w.heap.size ≤ gr := by omega
  have hne : gr ≠ g := by omega
  clear hgr
  have hlt := hC1.lt
  go_wp2_with fail
  refine (l10Graph_any hC1).mono ?_
  rintro e w2 ⟨v, rfl, ⟨N, A, m, d, X, rfl, ho, hX⟩, hC2, hg2⟩
  have hR2 := hR1.grown hg2 (fun e => hne (by injection e))
  have hU2 := hU1.grown hg2 hU1.size (fun k hk => by injection hk with hk; omega)
  have ho2 := ho.more (base' := w.heap.size) (by omega)
  have hyr := hR2.two
  have hf0 := hR2.frozen 0
  have hf1 := hR2.frozen 1
  have fo := (ho2.other_store (i := 0) hR2 (by decide) (.int .i64 N)).other_store (i := 1) (hR2.set_ 0 (.int .i64 N)) (by decide) (.slice A m d)
  have fb := (hU2.setCell (p := ⟨gr, 0, none⟩) hgr' (.int .i64 N)).setCell (p := ⟨gr, 1, none⟩) hgr' (.slice A m d)
  have hfin := ((hR2.set_ 0 (.int .i64 N)).set_ 1 (.slice A m d)).two
  clear hR2 ho2 ho hU2 hC2 hR1 hC1 hg2 hU1 hb1 hU0 hR0
  go_wp2
  generalize (w2.setCell ⟨gr, 0, none⟩ (.int .i64 N)).setCell ⟨gr, 1, none⟩ (.slice A m d) = Wf at fo fb hfin ⊢
  refine bodyPost_ret (v := .agg #[.int .i64 N, .slice A m d]) ?_ rfl ?_
  · simp [results, Tryz.results29, go_sem, hfin]
  exact ⟨N, A, m, d, X, rfl, fo, hX, fb⟩
set_option maxRecDepth 100000 in
theorem drawFindTriple_any (B : Option Addr) (n c : Nat) (bs : List Int) (w : World) (hB : RB w B n bs) (hn : n ≤ 1048576) (hlow : ∀ ad, B = some ad → ad.block < w.heap.size) :
    Calls Tryz.prog 46 #[.slice B n c] w (DG le6L w) := by
  have hU0 : Up w (w.alloc (.cells #[.int .i64 0, .slice none 0 0] 26)) := by go_grown
  have hR0 := Blk.new w 26 #[.int .i64 0, .slice none 0 0]
  have hs0 : (w.alloc (.cells #[.int .i64 0, .slice none 0 0] 26)).heap.size = w.heap.size + 1 := by simp
  obtain ⟨gr, hgr⟩ : ∃ gr, gr = w.heap.size := ⟨_, rfl⟩
  go_enter Tryz.func46, Tryz.ntmps46
  go_wp2_with fail
  refine (l1New_any B n c bs _ (hB.up hU0) hn (fun ad e => by have := hlow ad e; omega)).mono ?_
  rintro e w1 ⟨g, rfl, hC1, hb1, hg1⟩
  have hR1 := hR0.up hb1
  have hU1 := Up.then_ hU0 hb1
  rw [← hgr] at hR1 ⊢
  have hgr' : w.heap.size ≤ gr := by omega
  have hne : gr ≠ g := by omega
  clear hgr
  have hlt := hC1.lt
  go_wp2_with fail
  refine (l11Graph_any hC1).mono ?_
  rintro e w2 ⟨v, rfl, ⟨N, A, m, d, X, rfl, ho, hX⟩, hC2, hg2⟩
  have hR2 := hR1.grown hg2 (fun e => hne (by injection e))
  have hU2 := hU1.grown hg2 hU1.size (fun k hk => by injection hk with hk; omega)
  have ho2 := ho.more (base' := w.heap.size) (by omega)
  have hyr := hR2.two
  have hf0 := hR2.frozen 0
  have hf1 := hR2.frozen 1
  have fo := (ho2.other_store (i := 0) hR2 (by decide) (.int .i64 N)).other_store (i := 1) (hR2.set_ 0 (.int .i64 N)) (by decide) (.slice A m d)
  have fb := (hU2.setCell (p := ⟨gr, 0, none⟩) hgr' (.int .i64 N)).setCell (p := ⟨gr, 1, none⟩) hgr' (.slice A m d)
  have hfin := ((hR2.set_ 0 (.int .i64 N)).set_ 1 (.slice A m d)).two
  clear hR2 ho2 ho hU2 hC2 hR1 hC1 hg2 hU1 hb1 hU0 hR0
  go_wp2
  generalize (w2.setCell ⟨gr, 0, none⟩ (.int .i64 N)).setCell ⟨gr, 1, none⟩ (.slice A m d) = Wf at fo fb hfin ⊢
  refine bodyPost_ret (v := .agg #[.int .i64 N, .slice A m d]) ?_ rfl ?_
  · simp [results, Tryz.results46, go_sem, hfin]
  exact ⟨N, A, m, d, X, rfl, fo, hX, fb⟩
end Go.Proofs.YthncdjcmlpiebaaGreat
