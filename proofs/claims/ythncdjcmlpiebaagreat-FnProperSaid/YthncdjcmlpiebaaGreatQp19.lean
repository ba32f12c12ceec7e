/- Walks of chapter 9: is it a model of a graph. Walks of chapter 10: the program's search for orders of cliques (CliqueOrderOf). Walks of chapter 10: the reference's orders of cliques. The model of an order of cliques: it is a model of the graph; such an order comes of an order by intervals. No program in sight. The great law of models, plain: the deepest point is a largest clique, stabbing points are as many as independent intervals, proper models give umbrella orders. No program in sight. Walks of chapter 12: raised, the program's. Walks of chapter 12: UnitModelOf, the program's. -/
import Derived.Test.YthncdjcmlpiebaaGreatProg
import Derived.Test.YthncdjcmlpiebaaGreatQp01
import Derived.Test.YthncdjcmlpiebaaGreatQp02
import Derived.Test.YthncdjcmlpiebaaGreatQp03
import Derived.Test.YthncdjcmlpiebaaGreatQp04
import Derived.Test.YthncdjcmlpiebaaGreatQp05
import Derived.Test.YthncdjcmlpiebaaGreatQp07
import Derived.Test.YthncdjcmlpiebaaGreatQp09
import Derived.Test.YthncdjcmlpiebaaGreatQp10
import Derived.Test.YthncdjcmlpiebaaGreatQp11
import Derived.Test.YthncdjcmlpiebaaGreatQp12
import Derived.Test.YthncdjcmlpiebaaGreatQp13
import Derived.Test.YthncdjcmlpiebaaGreatQp18
import Derived.Deep.LoopGhost
import Derived.Deep.RegionLaw
import Derived.Deep.RegionWith
import Derived.Lib.SlicesCompact
import Derived.Maps.AppendAt
import Derived.Shelf.Lays
import Derived.Shelf.Lays2
import Derived.Shelf.Slices.Clone
import Derived.Shelf.Slices.CompactI
import Derived.Shelf.Slices.In.SortNone
import Derived.Shelf.Sort.Plain
import Derived.Sort.OwnSortedInts
namespace Go.Proofs.YthncdjcmlpiebaaGreat
open Go.RowKit
def sameGraph (N M : Int) (xs ys : List Int) : Bool := decide (N = M) && decide (xs = ys)
set_option maxRecDepth 100000 in
theorem sameGraph_no {N M : Int} {xs ys : List Int} (h : N ≠ M) : sameGraph N M xs ys = false := by rw [sameGraph, decide_eq_false h]; rfl
set_option maxRecDepth 100000 in
theorem sameGraph_yes {N : Int} {xs ys : List Int} : sameGraph N N xs ys = decide (xs = ys) := by rw [sameGraph, decide_eq_true rfl]; rfl
set_option maxRecDepth 100000 in
set_option maxHeartbeats 1000000 in
theorem implEqualGraphs_any (N M : Int) (A B : Option Addr) (n m ca cb : Nat) (xs ys : List Int) (w : World) (hA : RI w A n xs) (hB : RI w B m ys) (hn : n ≤ 9223372036854775807) :
    Calls Tryz.prog 77 #[.agg #[.int .i64 N, .slice A n ca], .agg #[.int .i64 M, .slice B m cb]] w fun e w' => e = .returned (.bool (sameGraph N M xs ys)) ∧ Below w.heap.size w w' := by
  by_cases hNM : N = M
  · subst hNM
    have HS := Lib.hid (sameGraph_yes (N := N) (xs := xs) (ys := ys))
    go_enter Tryz.func77, Tryz.ntmps77
    go_wp2_with fail
    refine (slEqual_any A B n m ca cb xs ys _ (hA.up (by go_grown)) (hB.up (by go_grown)) hn).mono ?_
    rintro e w1 ⟨rfl, hb1⟩
    have hU1 : Up w w1 := Up.then_ (by go_grown) hb1
    go_wp2
    go_ret
    exact ⟨ret_bool HS.out.symm, hU1⟩
  · have HS := Lib.hid (sameGraph_no (xs := xs) (ys := ys) hNM)
    have hne : (N == M) = false := by rw [beq_eq_false_iff_ne]; exact hNM
    clear hNM
    go_enter Tryz.func77, Tryz.ntmps77
    go_wp2
    go_ret
    exact ⟨ret_bool HS.out.symm, by go_grown⟩
def isModelOf (N : Int) (X L R : List Int) : Bool := isModel L R && sameGraph (goiNum L R) N (goiRows L R) X
set_option maxRecDepth 100000 in
theorem isModelOf_no {N : Int} {X L R : List Int} (h : isModel L R = false) : isModelOf N X L R = false := by rw [isModelOf, h]; rfl
set_option maxRecDepth 100000 in
theorem isModelOf_yes {N : Int} {X L R : List Int} (h : isModel L R = true) : isModelOf N X L R = sameGraph (goiNum L R) N (goiRows L R) X := by rw [isModelOf, h]; rfl
set_option maxRecDepth 100000 in
set_option maxHeartbeats 1000000 in
theorem implIsModelOf_any (N : Int) (C : Option Addr) (k cc : Nat) (X : List Int) (A B : Option Addr) (n m ca cb : Nat) (L R : List Int) (w : World) (hX : RI w C k X) (hL : RI w A n L) (hR : RI w B m R) (hn : n ≤ 1048576) (hm : m ≤ 1048576) :
    Calls Tryz.prog 20 #[.agg #[.int .i64 N, .slice C k cc], .agg #[.slice A n ca, .slice B m cb]] w fun e w' => e = .returned (.bool (isModelOf N X L R)) ∧ Below w.heap.size w w' := by
  have hlen := goiRows_len L R
  rcases Bool.eq_false_or_eq_true (isModel L R) with hg | hg
  · have HR := Lib.hid (isModelOf_yes (N := N) (X := X) hg)
    have Hg := Lib.hid hg
    clear hg
    go_enter Tryz.func20, Tryz.ntmps20
    go_wp2_with fail
    refine (implGraphOfIntervals_any A B n m ca cb L R _ (hL.up (by go_grown)) (hR.up (by go_grown)) hn hm).mono ?_
    rintro e w1 ⟨D, d, rfl, hown, hb1⟩
    have hU1 : Up w w1 := Up.then_ (by go_grown) hb1
    replace hX := hX.up hU1
    have hb0 := ((Blk.new w 26 #[.int .i64 N, .slice C k cc]).alloc (.cells #[.slice A n ca, .slice B m cb] 31)).up hb1
    have hy0 := hb0.two
    have hl0 := hb0.lt
    rw [Hg.out]
    go_wp2_with fail
    refine (implEqualGraphs_any _ _ _ _ _ _ _ _ (goiRows L R) X _ (hown.ri.up (by go_grown)) (hX.up (by go_grown)) (by omega)).mono ?_
    rintro e w2 ⟨rfl, hb2⟩
    have hU2 : Up w1 w2 := Up.then_ (by go_grown) hb2
    replace hX := hX.up hU2
    have hw2 := Up.then_ hU1 hU2
    go_wp2
    go_ret
    exact ⟨ret_bool HR.out.symm, hw2⟩
  · have HR := Lib.hid (isModelOf_no (N := N) (X := X) hg)
    have Hg := Lib.hid hg
    clear hg
    go_enter Tryz.func20, Tryz.ntmps20
    go_wp2_with fail
    refine (implGraphOfIntervals_any A B n m ca cb L R _ (hL.up (by go_grown)) (hR.up (by go_grown)) hn hm).mono ?_
    rintro e w1 ⟨D, d, rfl, hown, hb1⟩
    have hU1 : Up w w1 := Up.then_ (by go_grown) hb1
    rw [Hg.out]
    go_wp2
    go_ret
    exact ⟨ret_bool HR.out.symm, hU1.alloc hU1.size _⟩
end Go.Proofs.YthncdjcmlpiebaaGreat
namespace Go.Proofs.YthncdjcmlpiebaaGreat
open Go.RowKit
set_option maxRecDepth 100000 in
theorem Up.gb {w w' : World} (h : Up w w') (row : Option Nat) : w.grownBy w' row := only_of_below h row
set_option maxRecDepth 100000 in
theorem RI.gb {w w' : World} {A : Option Addr} {n bx : Nat} {xs : List Int} (h : RI w A n xs) (hg : w.grownBy w' (some bx)) (hr : ∀ ad, A = some ad → ad.block ≠ bx) : RI w' A n xs :=
  h.grown hg fun ad e k => hr ad e (by injection k)
set_option maxRecDepth 100000 in
theorem Blk.gb {w w' : World} {g bx : Nat} {t : TypeId} {cs : Array Value} (h : Blk w g t cs) (hg : w.grownBy w' (some bx)) (hr : g ≠ bx) : Blk w' g t cs :=
  h.grown hg fun e => hr (by injection e)
end Go.Proofs.YthncdjcmlpiebaaGreat
namespace Go.Proofs.YthncdjcmlpiebaaGreat
open Go.RowKit
end Go.Proofs.YthncdjcmlpiebaaGreat
namespace Go.Proofs.YthncdjcmlpiebaaGreat
theorem one_clq {n : Nat} {Q : List Nat} (h : GOk n Q) {v : Nat} : clq Q (2 ^ v) = true := by
  rw [clq_pairs h]
  intro a _ ha b hb hne
  rw [Nat.testBit_two_pow, decide_eq_true_eq] at ha hb
  omega
theorem iv_model {n : Nat} {Q : List Nat} (h : GOk n Q) {L R : List Int} (hm : isModel L R = true) (hl : L.length = n) (hi : IV n Q (fun v => L.getD v 0) (fun v => R.getD v 0)) : isModelOf n (ints Q) L R = true := by
  have hg := graphRows_ok hm
  have h2 := graphRows_iv hm
  rw [hl] at hg h2
  have e : graphRows L R = Q := graph_ext hg h fun x y hx hy => by
    by_cases hne : x = y
    · subst hne
      rw [edge_irr hg, edge_irr h]
    · rw [Bool.eq_iff_iff, h2.adj x y hx hy hne, hi.adj x y hx hy hne]
  obtain ⟨e1, e2⟩ := goi_ok hm
  rw [isModelOf, hm, e1, e2, e, hl, sameGraph_yes, decide_eq_true rfl]
  rfl
theorem ivObs_holds {N : Int} {X : List Int} {p : List Nat} (hp : ivObsOf N X = some p) : isIvObs N X (ints p) = true := by
  rcases graph_cases N X with hg | ⟨n, Q, rfl, rfl, h⟩
  · rw [ivObsOf, holeOf_no hg, tripOf_no hg] at hp; cases hp
  · rw [ivObsOf, Option.or_eq_some_iff] at hp
    rw [isIvObs, Bool.or_eq_true]
    rcases hp with hp | ⟨_, hp⟩
    · exact .inl ((isHole_iff h).2 (holeOf_some h hp))
    · obtain ⟨a, b, c, rfl, _, _, _, e⟩ := tripOf_some h hp
      refine .inr ?_
      rw [Bool.and_eq_true]
      exact ⟨rfl, e⟩
theorem prObs_holds {N : Int} {X : List Int} {p : List Nat} (hp : prObsOf N X = some p) : isPrObs N X (ints p) = true := by
  rw [isPrObs, Bool.or_eq_true]
  rw [prObsOf, Option.or_eq_some_iff] at hp
  rcases hp with hp | ⟨_, hp⟩
  · refine .inl ?_
    rcases graph_cases N X with hg | ⟨n, Q, rfl, rfl, h⟩
    · rw [clawOf_no hg] at hp; cases hp
    · rw [clawOf_ok h] at hp
      exact (srch_spec hp).2.1
  · exact .inr (ivObs_holds hp)
end Go.Proofs.YthncdjcmlpiebaaGreat
namespace Go.Proofs.YthncdjcmlpiebaaGreat
theorem listOf_ndp (s : Nat) : (listOf s).Nodup := (List.nodup_range).sublist List.filter_sublist
theorem card_zero : card 0 = 0 := by decide
theorem bestK_holds {P : Nat → Bool} : ∀ {k : Nat}, bestK P k = 0 ∨ P (bestK P k) = true
  | 0 => .inl rfl
  | k + 1 => by
    rw [bestK]
    split
    · rename_i h; exact .inr h.2
    · exact bestK_holds
theorem card_setN {l : List Nat} (hn : l.Nodup) (h7 : ∀ v ∈ l, v < 7) : l.length ≤ card (setN l) :=
  nodup_sub hn fun v hv => mem_listOf.2 ⟨h7 v hv, by rw [testBit_setN]; exact decide_eq_true hv⟩
section
variable {L R : List Int}
end
end Go.Proofs.YthncdjcmlpiebaaGreat
namespace Go.Proofs.YthncdjcmlpiebaaGreat
open Go.RowKit
/-- Left ends by place, as left ends by vertex. -/
def lfo (o : List Nat) (n : Nat) (x : List Nat) : List Nat := (List.range n).map fun v => nb x (place o v)
set_option maxRecDepth 100000 in
theorem lfo_len (o : List Nat) (n : Nat) (x : List Nat) : (lfo o n x).length = n := by simp [lfo]
set_option maxRecDepth 100000 in
theorem nb_lfo {o : List Nat} {n v : Nat} (x : List Nat) (h : v < n) : nb (lfo o n x) v = nb x (place o v) := by
  simp [lfo, nb, List.getD, List.getElem?_map, List.getElem?_range h]
set_option maxRecDepth 100000 in
theorem lfo_at {o : List Nat} {n i : Nat} (ho : natVerts n o) (hl : o.length = n) (x : List Nat) (h : i < n) : nb (lfo o n x) (nb o i) = nb x i := by
  rw [nb_lfo x (ho.at_ (by omega)), place_nb ho (by omega)]
set_option maxRecDepth 100000 in
theorem nb_ext {a b : List Nat} (hl : a.length = b.length) (h : ∀ i, i < a.length → nb a i = nb b i) : a = b := by
  refine List.ext_getElem hl fun i h1 h2 => ?_
  have := h i h1
  simpa [nb, List.getD, List.getElem?_eq_getElem h1, List.getElem?_eq_getElem h2] using this
set_option maxRecDepth 100000 in
theorem lfo_set {o : List Nat} {n i : Nat} (ho : natVerts n o) (hl : o.length = n) {x : List Nat} (hx : x.length = n) (h : i < n) (y : Nat) : (lfo o n x).set (nb o i) y = lfo o n (x.set i y) := by
  refine nb_ext (by simp [lfo]) fun v hv => ?_
  rw [List.length_set, lfo_len] at hv
  have hi := ho.at_ (j := i) (by omega)
  have hm := ho.all hl hv
  rw [nb_set' (by rw [lfo_len]; exact hi), nb_lfo _ hv, nb_lfo _ hv, nb_set' (by omega)]
  by_cases e : v = nb o i
  · rw [if_pos e, if_pos (by rw [e, place_nb ho (by omega)])]
  · rw [if_neg e, if_neg fun k => e (by rw [← k, place_at hm])]
section
variable {w : World} {g bL bC v n d : Nat} {L : List Nat} {c : Bool} {z : Int}
set_option maxRecDepth 100000 in
theorem raise_no (hL : Blk w bL 24 #[.slice (some ⟨g, 0, none⟩) n d]) (hM : Blk w g 3 (natCells L)) (hv : v < n) (hln : L.length = n) (h : ¬ (nb L v : Int) < z) :
    Calls Tryz.prog 128 #[.int .i64 v, .int .i64 z, .pointer (some ⟨bL, 0, none⟩), .pointer (some ⟨bC, 0, none⟩)] w fun e w' => e = .returned (.tuple #[]) ∧ w' = w := by
  have hyL := hL.one
  have hc := hM.nat (j := v) (by omega)
  obtain ⟨y, hy⟩ : ∃ y, y = nb L v := ⟨_, rfl⟩
  rw [← hy] at hc h
  clear hy
  go_enter Tryz.func128, Tryz.ntmps128
  go_wp2
  go_end0
  exact ⟨rfl, rfl⟩
set_option maxRecDepth 100000 in
theorem raise_yes (hL : Blk w bL 24 #[.slice (some ⟨g, 0, none⟩) n d]) (hC : Blk w bC 4 #[.bool c]) (hM : Blk w g 3 (natCells L)) (hv : v < n) (hln : L.length = n) (h : (nb L v : Int) < z) :
    Calls Tryz.prog 128 #[.int .i64 v, .int .i64 z, .pointer (some ⟨bL, 0, none⟩), .pointer (some ⟨bC, 0, none⟩)] w fun e w' => e = .returned (.tuple #[]) ∧ w' = (w.setCell ⟨g, v, none⟩ (.int .i64 z)).setCell ⟨bC, 0, none⟩ (.bool true) := by
  have hyL := hL.one
  have hc := hM.nat (j := v) (by omega)
  have hfz := hM.frozen v
  have hne := hC.ne_ hM (by decide)
  have hC2 := hC.far (p := ⟨g, v, none⟩) hne (.int .i64 z)
  have hyC := hC2.one
  have hfC := hC2.frozen 0
  obtain ⟨y, hy⟩ : ∃ y, y = nb L v := ⟨_, rfl⟩
  rw [← hy] at hc h
  clear hy
  go_enter Tryz.func128, Tryz.ntmps128
  go_wp2
  go_end0
  exact ⟨rfl, rfl⟩
end
/-- What stands while ends are raised. -/
structure RzInv (W : World) (A : Option Addr) (gM bG bL bC n ca d : Nat) (o : List Nat) (wr : World) (s : List Nat × Bool) : Prop where
  len : s.1.length = n
  m : Blk wr gM 3 (natCells (lfo o n s.1))
  c : Blk wr bC 4 #[.bool s.2]
  l : Blk wr bL 24 #[.slice (some ⟨gM, 0, none⟩) n d]
  g : Blk wr bG 26 #[.int .i64 n, .slice A n ca]
  gr : W.grownBy wr (some gM)
set_option maxRecDepth 100000 in
theorem RzInv.up {W : World} {A : Option Addr} {gM bG bL bC n ca d : Nat} {o : List Nat} {wr w' : World} {s : List Nat × Bool} (I : RzInv W A gM bG bL bC n ca d o wr s) (hb : Below wr.heap.size wr w') : RzInv W A gM bG bL bC n ca d o w' s :=
  ⟨I.len, I.m.up hb, I.c.up hb, I.l.up hb, I.g.up hb, ⟨hb.os.trans I.gr.os, hb.tape.trans I.gr.tape, hb.output.trans I.gr.output, Nat.le_trans I.gr.size hb.size, fun i hi hr => (hb.block i (Nat.lt_of_lt_of_le hi I.gr.size)).trans (I.gr.block i hi hr)⟩⟩
set_option maxRecDepth 100000 in
theorem grown_own {a w : World} {row : Option Nat} (h : a.grownBy w row) {p : Addr} (hp : a.heap.size ≤ p.block ∨ row = some p.block) (u : Value) : a.grownBy (w.setCell p u) row :=
  ⟨h.os, h.tape, h.output, by simpa using h.size, fun i hi hr => (Below.heap_setCell w p u i (fun e => by
    rcases hp with hp | hp
    · omega
    · exact hr (by rw [hp, e]))).trans (h.block i hi hr)⟩
set_option maxRecDepth 100000 in
theorem raise_up {W : World} {A : Option Addr} {gM bG bL bC n ca d i l : Nat} {o : List Nat} {wr : World} {s : List Nat × Bool} {z : Int} (I : RzInv W A gM bG bL bC n ca d o wr s) (ho : natVerts n o) (hl : o.length = n) (hi : i < n)
    (hbC : W.heap.size ≤ bC) (hz : z = (l : Int) ∨ (z ≤ 0 ∧ l = 0)) :
    Calls Tryz.prog 128 #[.int .i64 (nb o i), .int .i64 z, .pointer (some ⟨bL, 0, none⟩), .pointer (some ⟨bC, 0, none⟩)] wr fun e w' => e = .returned (.tuple #[]) ∧ RzInv W A gM bG bL bC n ca d o w' (upF s i l) := by
  have hv := ho.at_ (j := i) (by omega)
  have hat := lfo_at ho hl s.1 hi
  by_cases hlt : nb s.1 i < l
  · obtain rfl : z = (l : Int) := by omega
    refine (raise_yes I.l I.c I.m hv (lfo_len o n s.1) (by rw [hat]; omega)).mono ?_
    rintro e w' ⟨rfl, rfl⟩
    refine ⟨rfl, ?_⟩
    rw [upF, if_pos hlt]
    have hcm := I.c.ne_ I.m (by decide)
    have hlm : bL ≠ gM := fun e => by
      have h1 := I.l
      rw [e] at h1
      have h2 := h1.symm.trans I.m
      simp only [Option.some.injEq, Obj.cells.injEq] at h2
      exact absurd h2.2.1 (by decide)
    have hgm := I.g.ne_ I.m (by decide)
    have hlc := I.l.ne_ I.c (by decide)
    have hgc := I.g.ne_ I.c (by decide)
    have h1 := I.m.set_ (nb o i) (.int .i64 (l : Int))
    rw [natCells_set, lfo_set ho hl I.len hi] at h1
    refine ⟨by simp [I.len], h1.far (p := ⟨bC, 0, none⟩) (fun e => hcm e.symm) _, ?_, (I.l.far (p := ⟨gM, _, none⟩) hlm _).far (p := ⟨bC, 0, none⟩) hlc _, (I.g.far (p := ⟨gM, _, none⟩) hgm _).far (p := ⟨bC, 0, none⟩) hgc _, grown_own (grown_own I.gr (.inr rfl) _) (.inl hbC) _⟩
    have := (I.c.far (p := ⟨gM, nb o i, none⟩) hcm (.int .i64 (l : Int))).set_ 0 (.bool true)
    simpa using this
  · refine (raise_no I.l I.m hv (lfo_len o n s.1) (by rw [hat]; omega)).mono ?_
    rintro e w' ⟨rfl, rfl⟩
    exact ⟨rfl, by rw [upF, if_neg hlt]; exact I⟩
set_option maxRecDepth 100000 in
theorem upF_le {s : List Nat × Bool} {v l M : Nat} (h : ∀ i, nb s.1 i ≤ M) (hl : l ≤ M) : ∀ i, nb (upF s v l).1 i ≤ M := fun i => by
  unfold upF
  split
  · simp only
    rcases Nat.lt_or_ge v s.1.length with hv | hv
    · rw [nb_set' hv]
      split
      · exact hl
      · exact h i
    · rw [List.set_eq_of_length_le hv]; exact h i
  · exact h i
set_option maxRecDepth 100000 in
theorem rsA_le {J : Nat → Nat → Bool} {s : List Nat × Bool} {k i M : Nat} (h : ∀ i, nb s.1 i ≤ M) : ∀ j, nb (rsA J s k i).1 j ≤ M + 8 := by
  unfold rsA
  split
  · exact upF_le (fun j => by have := h j; omega) (by have := h k; omega)
  · exact upF_le (fun j => by have := h j; omega) (by have := h i; omega)
set_option maxRecDepth 100000 in
theorem rsB_le {s : List Nat × Bool} {k i M : Nat} (h : ∀ i, nb s.1 i ≤ M) : ∀ j, nb (rsB s k i).1 j ≤ M := by
  unfold rsB
  split
  · exact upF_le h (h i)
  · exact h
set_option maxRecDepth 100000 in
theorem rsI_le {J : Nat → Nat → Bool} {s : List Nat × Bool} {k M : Nat} (h : ∀ i, nb s.1 i ≤ M) : ∀ i j, nb (rsI J s k i).1 j ≤ M + 8 * i
  | 0, j => by have := h j; rw [rsI]; omega
  | i + 1, j => by
    rw [rsI]
    exact Nat.le_trans (rsB_le (rsA_le (rsI_le h i)) j) (by omega)
set_option maxRecDepth 100000 in
theorem rsK_le {J : Nat → Nat → Bool} {s : List Nat × Bool} {M : Nat} (h : ∀ i, nb s.1 i ≤ M) : ∀ k, k ≤ 7 → ∀ j, nb (rsK J s k).1 j ≤ M + 56 * k
  | 0, _, j => by have := h j; rw [rsK]; omega
  | k + 1, hk, j => by
    rw [rsK]
    have := rsI_le (J := J) (s := rsK J s k) (k := k) (rsK_le (J := J) h k (by omega)) k j
    omega
set_option maxRecDepth 100000 in
set_option maxHeartbeats 1000000 in
theorem raised_any (A B : Option Addr) (n ca cb gM d M : Nat) (Q o x : List Nat) (w : World) (hX : RI w A n (ints Q)) (hO : RI w B n (ints o)) (h : GOk n Q) (ho : natVerts n o) (hl : o.length = n) (hx : x.length = n) (hcb : n ≤ cb) (_hcb2 : cb ≤ 9223372036854775807)
    (hM : Blk w gM 3 (natCells (lfo o n x))) (hb : ∀ i, nb x i ≤ M) (hMM : M ≤ 100000) (hXne : ∀ ad, A = some ad → ad.block ≠ gM) (hOne : ∀ ad, B = some ad → ad.block ≠ gM) :
    Calls Tryz.prog 68 #[.agg #[.int .i64 n, .slice A n ca], .slice B n cb, .slice (some ⟨gM, 0, none⟩) n d] w fun e w' => e = .returned (.bool (rsK (fun i k => edge Q (nb o i) (nb o k)) (x, false) n).2) ∧ Blk w' gM 3 (natCells (lfo o n (rsK (fun i k => edge Q (nb o i) (nb o k)) (x, false) n).1)) ∧ w.grownBy w' (some gM) := by
  have h7 := h.le
  obtain ⟨aa, rfl, _, _⟩ := hX.addr h.pos
  obtain ⟨ab, rfl, _, _⟩ := hO.addr h.pos
  obtain ⟨J, hJ⟩ : ∃ J : Nat → Nat → Bool, J = fun i k => edge Q (nb o i) (nb o k) := ⟨_, rfl⟩
  have HJ := Lib.hid hJ
  rw [← hJ]
  have HLe := Lib.hid fun k (hk : k ≤ 7) => rsK_le (J := J) (s := (x, false)) hb k hk
  have hU : Up w (((w.alloc (.cells #[.int .i64 n, .slice (some aa) n ca] 26)).alloc (.cells #[.slice (some ⟨gM, 0, none⟩) n d] 24)).alloc (.cells #[.bool false] 4)) := by go_grown
  have I0 : RzInv w (some aa) gM w.heap.size (w.heap.size + 1) (w.heap.size + 1 + 1) n ca d o (((w.alloc (.cells #[.int .i64 n, .slice (some aa) n ca] 26)).alloc (.cells #[.slice (some ⟨gM, 0, none⟩) n d] 24)).alloc (.cells #[.bool false] 4)) (x, false) :=
    ⟨hx, hM.up hU, Blk.new_at (by simp), (Blk.new_at (w := w.alloc (.cells #[.int .i64 n, .slice (some aa) n ca] 26)) (g := w.heap.size + 1) (by simp)).alloc _, ((Blk.new w _ _).alloc _).alloc _, only_of_below hU _⟩
  obtain ⟨W, hW⟩ : ∃ W, W = ((w.alloc (.cells #[.int .i64 n, .slice (some aa) n ca] 26)).alloc (.cells #[.slice (some ⟨gM, 0, none⟩) n d] 24)).alloc (.cells #[.bool false] 4) := ⟨_, rfl⟩
  rw [← hW] at I0
  have HXw := Lib.hid hX
  have HOw := Lib.hid hO
  have HH := Lib.hid h
  have HOv := Lib.hid ho
  have HOl := Lib.hid hl
  clear hX hO hM hU hb hJ hx
  go_enter Tryz.func68, Tryz.ntmps68
  go_wp2_with fail
  rw [← hW]
  clear hW
  go_loopw [16] (fun t wr => ∃ (k : Nat) (s : List Nat × Bool), k ≤ n ∧ t = .int .i64 k ∧ Hid (s = rsK J (x, false) k) ∧ RzInv w (some aa) gM w.heap.size (w.heap.size + 1) (w.heap.size + 1 + 1) n ca d o wr s) (fun t _ => n - (intOf t).toNat)
  case atStart => exact ⟨0, (x, false), Nat.zero_le _, rfl, rfl, I0⟩
  case round =>
    clear I0
    obtain ⟨k, s0, hk, rfl, hs0, I⟩ := hrel
    obtain ⟨wo, rfl⟩ : ∃ wo : World, wo = wr := ⟨_, rfl⟩
    by_cases hkn : k < n
    · have HL0 := Lib.hid (HLe.out k (by omega))
      have hcw := (HOw.out.grown I.gr (fun ad e => by intro e2; injection e2 with e2; exact hOne ad e e2)).nbs hkn
      have hwn := HOv.out.at_ (j := k) (by rw [HOl.out]; exact hkn)
      obtain ⟨vw, hvw⟩ : ∃ vw, vw = nb o k := ⟨_, rfl⟩
      have HVw := Lib.hid hvw
      rw [← hvw] at hcw hwn
      clear hvw
      go_wp2
      go_loopw [25] (fun t wr => ∃ (i : Nat) (s : List Nat × Bool), i ≤ k ∧ t = .int .i64 i ∧ Hid (s = rsI J s0 k i) ∧ RzInv w (some aa) gM w.heap.size (w.heap.size + 1) (w.heap.size + 1 + 1) n ca d o wr s) (fun t _ => k - (intOf t).toNat)
      case atStart => exact ⟨0, s0, Nat.zero_le _, rfl, rfl, I⟩
      case round =>
        clear I hcw
        obtain ⟨i, s, hi, rfl, hs, I⟩ := hrel
        obtain ⟨wi, rfl⟩ : ∃ wi : World, wi = wr := ⟨_, rfl⟩
        by_cases hik : i < k
        · have hin : i < n := by omega
          have hcv := (HOw.out.grown I.gr (fun ad e => by intro e2; injection e2 with e2; exact hOne ad e e2)).nbs hin
          have hvn := HOv.out.at_ (j := i) (by rw [HOl.out]; exact hin)
          have hLs := Lib.hid (fun j => show nb s.1 j ≤ 200000 by
            rw [hs.out]
            have h1 := rsI_le (J := J) (s := s0) (k := k) (M := M + 56 * k) (by rw [hs0.out]; exact HL0.out) i j
            omega)
          have hcg := (HXw.out.grown I.gr (fun ad e => by intro e2; injection e2 with e2; exact hXne ad e e2)).nbs hvn
          have hcl1 := I.m.nat (j := nb o i) (by rw [lfo_len]; exact hvn)
          have hcl2 := I.m.nat (j := nb o k) (by rw [lfo_len, ← HVw.out]; exact hwn)
          rw [lfo_at HOv.out HOl.out s.1 hin] at hcl1
          rw [lfo_at HOv.out HOl.out s.1 hkn, ← HVw.out] at hcl2
          have hJe := Lib.hid (show J i k = (nb Q (nb o i)).testBit vw by rw [HJ.out, HVw.out]; rfl)
          have HSt := Lib.hid (show rsI J s0 k (i + 1) = rsB (rsA J s k i) k i by rw [rsI, ← hs.out])
          have hb1 := hLs.out i
          have hb2 := hLs.out k
          have hyg := I.g.two
          have hyl := I.l.one
          obtain ⟨vv, hvv⟩ : ∃ vv, vv = nb o i := ⟨_, rfl⟩
          have HVv := Lib.hid hvv
          rw [← hvv] at hcv hvn hcg hcl1 hJe
          clear hvv
          obtain ⟨x1, hx1⟩ : ∃ x1, x1 = nb s.1 i := ⟨_, rfl⟩
          obtain ⟨x2, hx2⟩ : ∃ x2, x2 = nb s.1 k := ⟨_, rfl⟩
          rw [← hx1] at hcl1 hb1
          rw [← hx2] at hcl2 hb2
          have HX1 := Lib.hid hx1
          have HX2 := Lib.hid hx2
          clear hx1 hx2
          have h7r := HH.out.nb7 vv
          obtain ⟨rv, hrv⟩ : ∃ rv, rv = nb Q vv := ⟨_, rfl⟩
          rw [← hrv] at hcg hJe h7r
          clear hrv
          obtain ⟨f, hf⟩ : ∃ f, f = rv.testBit vw := ⟨_, rfl⟩
          have HF := Lib.hid hf.symm
          have HJf := Lib.hid (hJe.out.trans hf.symm)
          clear hf
          cases f
          · have HA := Lib.hid (show upF s k (x1 + 8) = rsA J s k i by rw [rsA, HJf.out]; simp only [Bool.false_eq_true, if_false]; rw [HX1.out])
            go_wp2_with (go_at_call 112; refine (has_eq (by omega) (by omega) HF.out).mono ?_; rintro e w' ⟨rfl, rfl⟩)
            have hcall := raise_up (i := k) (l := x1 + 8) (z := (x1 : Int) + 7 + 1) I HOv.out HOl.out (by omega) (by omega) (.inl (by omega))
            rw [← HVw.out] at hcall
            refine hcall.mono ?_
            rintro e w2 ⟨rfl, I2⟩
            clear hcall hcv hcg hcl1 hcl2 hyg hyl I
            rw [HA.out] at I2
            have hyl2 := I2.l.one
            by_cases hlast : i + 1 = k
            · have hcl3 := I2.m.nat (j := nb o i) (by rw [lfo_len, ← HVv.out]; exact hvn)
              rw [lfo_at HOv.out HOl.out _ hin, ← HVv.out] at hcl3
              obtain ⟨x3, hx3⟩ : ∃ x3, x3 = nb (rsA J s k i).1 i := ⟨_, rfl⟩
              have HX3 := Lib.hid hx3
              have hx3b : x3 ≤ 300000 := by
                have := rsA_le (J := J) (s := s) (k := k) (i := i) (M := 200000) hLs.out i
                omega
              rw [← hx3] at hcl3
              clear hx3
              have HB := Lib.hid (show upF (rsA J s k i) k x3 = rsI J s0 k (i + 1) by rw [HSt.out, rsB, if_pos hlast, HX3.out])
              have hq : ((i : Int) == (k : Int) - 1) = true := by rw [beq_iff_eq]; omega
              go_wp2_with fail
              have hcall := raise_up (i := k) (l := x3) (z := (x3 : Int)) I2 HOv.out HOl.out hkn (by omega) (.inl rfl)
              rw [← HVw.out] at hcall
              refine hcall.mono ?_
              rintro e w3 ⟨rfl, I3⟩
              clear hcall hcl3 hyl2 I2
              rw [HB.out] at I3
              go_wp2
              go_roundw
              case rel => exact ⟨i + 1, _, by omega, by go_num, rfl, I3⟩
              case measure => simp [intOf]; omega
            · have HB := Lib.hid (show rsA J s k i = rsI J s0 k (i + 1) by rw [HSt.out, rsB, if_neg hlast])
              have hq : ((i : Int) == (k : Int) - 1) = false := by rw [beq_eq_false_iff_ne]; omega
              rw [HB.out] at I2
              clear hyl2
              go_wp2
              go_roundw
              case rel => exact ⟨i + 1, _, by omega, by go_num, rfl, I2⟩
              case measure => simp [intOf]; omega
          · have HA := Lib.hid (show upF s i (x2 - 7) = rsA J s k i by rw [rsA, HJf.out]; simp only [if_true]; rw [HX2.out])
            go_wp2_with (go_at_call 112; refine (has_eq (by omega) (by omega) HF.out).mono ?_; rintro e w' ⟨rfl, rfl⟩)
            have hcall := raise_up (i := i) (l := x2 - 7) (z := (x2 : Int) - 7) I HOv.out HOl.out (by omega) (by omega) (by omega)
            rw [← HVv.out] at hcall
            refine hcall.mono ?_
            rintro e w2 ⟨rfl, I2⟩
            clear hcall hcv hcg hcl1 hcl2 hyg hyl I
            rw [HA.out] at I2
            have hyl2 := I2.l.one
            by_cases hlast : i + 1 = k
            · have hcl3 := I2.m.nat (j := nb o i) (by rw [lfo_len, ← HVv.out]; exact hvn)
              rw [lfo_at HOv.out HOl.out _ hin, ← HVv.out] at hcl3
              obtain ⟨x3, hx3⟩ : ∃ x3, x3 = nb (rsA J s k i).1 i := ⟨_, rfl⟩
              have HX3 := Lib.hid hx3
              have hx3b : x3 ≤ 300000 := by
                have := rsA_le (J := J) (s := s) (k := k) (i := i) (M := 200000) hLs.out i
                omega
              rw [← hx3] at hcl3
              clear hx3
              have HB := Lib.hid (show upF (rsA J s k i) k x3 = rsI J s0 k (i + 1) by rw [HSt.out, rsB, if_pos hlast, HX3.out])
              have hq : ((i : Int) == (k : Int) - 1) = true := by rw [beq_iff_eq]; omega
              go_wp2_with fail
              have hcall := raise_up (i := k) (l := x3) (z := (x3 : Int)) I2 HOv.out HOl.out hkn (by omega) (.inl rfl)
              rw [← HVw.out] at hcall
              refine hcall.mono ?_
              rintro e w3 ⟨rfl, I3⟩
              clear hcall hcl3 hyl2 I2
              rw [HB.out] at I3
              go_wp2
              go_roundw
              case rel => exact ⟨i + 1, _, by omega, by go_num, rfl, I3⟩
              case measure => simp [intOf]; omega
            · have HB := Lib.hid (show rsA J s k i = rsI J s0 k (i + 1) by rw [HSt.out, rsB, if_neg hlast])
              have hq : ((i : Int) == (k : Int) - 1) = false := by rw [beq_eq_false_iff_ne]; omega
              rw [HB.out] at I2
              clear hyl2
              go_wp2
              go_roundw
              case rel => exact ⟨i + 1, _, by omega, by go_num, rfl, I2⟩
              case measure => simp [intOf]; omega
        · obtain rfl : i = k := by omega
          have HN := Lib.hid (show s = rsK J (x, false) (i + 1) by rw [rsK, ← hs0.out]; exact hs.out)
          go_wp2
          go_roundw
          case rel => exact ⟨i + 1, s, by omega, by go_num, HN.out, I⟩
          case measure => simp [intOf]; omega
    · obtain rfl : k = n := by omega
      have HS := Lib.hid hs0.out
      have hyc := I.c.one
      obtain ⟨s1, s2⟩ := s0
      go_wp2
      go_ret
      rw [← HS.out]
      exact ⟨rfl, I.m, I.gr⟩
end Go.Proofs.YthncdjcmlpiebaaGreat
namespace Go.Proofs.YthncdjcmlpiebaaGreat
open Go.RowKit
def unitL (Q o : List Nat) (n : Nat) : List Nat := lfo o n (rsR (adjP Q o) n 3)
def unitR (Q o : List Nat) (n : Nat) : List Nat := (unitL Q o n).map (· + 7)
def unitOf (N : Int) (X : List Int) : List Int × List Int × Bool := match umbOf N X with
  | some o => (ints (unitL (X.map Int.toNat) o N.toNat), ints (unitR (X.map Int.toNat) o N.toNat), true)
  | none => ([], [], false)
set_option maxRecDepth 100000 in
theorem unitOf_none {N : Int} {X : List Int} (h : umbOf N X = none) : unitOf N X = ([], [], false) := by rw [unitOf, h]
set_option maxRecDepth 100000 in
theorem unitOf_some {n : Nat} {Q o : List Nat} (h : umbOf n (ints Q) = some o) : unitOf n (ints Q) = (ints (unitL Q o n), ints (unitR Q o n), true) := by rw [unitOf, h, nats_ints4, Int.toNat_natCast]
set_option maxRecDepth 100000 in
theorem unitL_len (Q o : List Nat) (n : Nat) : (unitL Q o n).length = n := lfo_len _ _ _
set_option maxRecDepth 100000 in
theorem unitR_len (Q o : List Nat) (n : Nat) : (unitR Q o n).length = n := by simp [unitR, unitL_len]
set_option maxRecDepth 100000 in
/-- What the first umbrella order is. -/
theorem umbOf_spec {N : Int} {X : List Int} {o : List Nat} (hu : umbOf N X = some o) : ∃ (n : Nat) (Q : List Nat), N = n ∧ X = ints Q ∧ GOk n Q ∧ natVerts n o ∧ o.length = n ∧ umb Q o = true := by
  rcases Bool.eq_false_or_eq_true (isGraph N X) with hg | hg
  · obtain ⟨n, Q, rfl, rfl, h⟩ := isGraph_ok hg
    rw [umbOf_ok h] at hu
    obtain ⟨h1, _, h3, h4, h5⟩ := srch_spec hu
    have hl : o.length = n := by simpa using h1
    refine ⟨n, Q, rfl, rfl, h, ⟨h3 (by simp), h4 (by simp)⟩, hl, h5 ?_⟩
    intro h0
    have := h.pos
    omega
  · rw [umbOf_no hg] at hu; cases hu
set_option maxRecDepth 100000 in
theorem rsK_len (J : Nat → Nat → Bool) (s : List Nat × Bool) : ∀ k, (rsK J s k).1.length = s.1.length := by
  have hu : ∀ (s : List Nat × Bool) v l, (upF s v l).1.length = s.1.length := fun s v l => by unfold upF; split <;> simp
  have hI : ∀ (s : List Nat × Bool) k i, (rsI J s k i).1.length = s.1.length := fun s k i => by
    induction i with
    | zero => rfl
    | succ i ih =>
      rw [rsI, rsB]
      have hA : (rsA J (rsI J s k i) k i).1.length = s.1.length := by rw [rsA]; split <;> rw [hu, ih]
      split
      · rw [hu, hA]
      · exact hA
  intro k
  induction k with
  | zero => rfl
  | succ k ih => rw [rsK, hI, ih]
set_option maxRecDepth 100000 in
theorem rsR_len (J : Nat → Nat → Bool) (n : Nat) : ∀ r, (rsR J n r).length = n
  | 0 => by simp [rsR]
  | r + 1 => by rw [rsR, rsK_len]; exact rsR_len J n r
set_option maxRecDepth 100000 in
theorem givesTB_of {w w' : World} {A B : Option Addr} {n c d base : Nat} {L R : List Nat} {b : Bool} (hl : L.length = n) (hr : R.length = n) (hL : OwnI w' base A n c (ints L)) (hR : OwnI w' base B n d (ints R)) (hap : ∀ k, (Value.slice A n c).ownBlock = some k → (Value.slice B n d).ownBlock ≠ some k) (hbase : w.heap.size ≤ base) (hb : Below w.heap.size w w') :
    GivesTB (ints L) (ints R) b w (.returned (.tuple #[.agg #[.slice A n c, .slice B n d], .bool b])) w' := by
  subst hl
  have e1 := ints_len L
  have e2 := ints_len R
  rw [hr] at e2
  exact ⟨A, c, B, d, by rw [e1, e2], (hL.cast e1.symm rfl).more hbase, (hR.cast e2.symm rfl).more hbase, by rw [e1, e2]; exact hap, hb⟩
set_option maxRecDepth 100000 in
theorem rsR_le (J : Nat → Nat → Bool) {n : Nat} (h7 : n ≤ 7) : ∀ r i, nb (rsR J n r) i ≤ 400 * r
  | 0, i => by
    unfold nb rsR
    simp only [List.getD_eq_getElem?_getD, List.getElem?_replicate]
    split <;> simp
  | r + 1, i => by
    rw [rsR]
    have := rsK_le (J := J) (s := (rsR J n r, false)) (rsR_le J h7 r) n h7 i
    omega
set_option maxRecDepth 100000 in
theorem take_snoc7 {L : List Nat} {j : Nat} (h : j < L.length) : (L.take (j + 1)).map (· + 7) = (L.take j).map (· + 7) ++ [nb L j + 7] := by
  rw [List.take_succ_eq_append_getElem h, List.map_append]
  simp [nb, List.getD, List.getElem?_eq_getElem h]
set_option maxRecDepth 100000 in
set_option maxHeartbeats 2000000 in
theorem implUnitModelOf_any (N : Int) (A : Option Addr) (n c : Nat) (X : List Int) (w : World) (hX : RI w A n X) (hn : n ≤ 9223372036854775807) :
    Calls Tryz.prog 9 #[.agg #[.int .i64 N, .slice A n c]] w (GivesTB (unitOf N X).1 (unitOf N X).2.1 (unitOf N X).2.2 w) := by
  have hbk := (Blk.new w 26 #[.int .i64 N, .slice A n c]).alloc (.cells #[.slice none 0 0, .slice none 0 0] 31)
  have hbr := Blk.new_at (w := w.alloc (.cells #[.int .i64 N, .slice A n c] 26)) (t := 31) (cs := #[.slice none 0 0, .slice none 0 0]) (g := w.heap.size + 1) (by simp)
  have hU0 : Up w ((w.alloc (.cells #[.int .i64 N, .slice A n c] 26)).alloc (.cells #[.slice none 0 0, .slice none 0 0] 31)) := by go_grown
  have hl0 : w.heap.size + 2 = ((w.alloc (.cells #[.int .i64 N, .slice A n c] 26)).alloc (.cells #[.slice none 0 0, .slice none 0 0] 31)).heap.size := by simp
  obtain ⟨W, hW⟩ : ∃ W, W = (w.alloc (.cells #[.int .i64 N, .slice A n c] 26)).alloc (.cells #[.slice none 0 0, .slice none 0 0] 31) := ⟨_, rfl⟩
  rw [← hW] at hbk hbr hU0 hl0
  have hX0 := hX.up hU0
  have hy0 := hbk.two
  go_enter Tryz.func9, Tryz.ntmps9
  go_wp2_with fail
  rw [← hW]
  clear hW
  refine (implUmbrellaOf_any N A n c X _ hX0 hn).mono ?_
  rcases hu : umbOf N X with _ | o
  · have HR := Lib.hid (unitOf_none hu)
    clear hu
    rintro e w1 ⟨B, d, rfl, hO, hb1⟩
    have hbr1 := hbr.up hb1
    have e1 := hbr1.two
    have f0 := hbr1.frozen 0
    have f1 := hbr1.frozen 1
    have hfin := ((hbr1.set_ 0 (.slice none 0 0)).set_ 1 (.slice none 0 0)).two
    have hbf := ((Up.then_ hU0 hb1).setCell (p := ⟨w.heap.size + 1, 0, none⟩) (by simp) (.slice none 0 0)).setCell (p := ⟨w.heap.size + 1, 1, none⟩) (by simp) (.slice none 0 0)
    simp only [optL, Option.isSome_none]
    go_wp2
    generalize (w1.setCell ⟨w.heap.size + 1, 0, none⟩ (.slice none 0 0)).setCell ⟨w.heap.size + 1, 1, none⟩ (.slice none 0 0) = Wf at hfin hbf ⊢
    refine bodyPost_ret (v := .tuple #[.agg #[.slice none 0 0, .slice none 0 0], .bool false]) ?_ rfl ?_
    · simp [results, Tryz.results9, go_sem, hfin]
    rw [HR.out]
    exact ⟨none, 0, none, 0, rfl, OwnI.nil_ _ _, OwnI.nil_ _ _, (fun j h => by simp [Value.ownBlock] at h), hbf⟩
  · obtain ⟨n', Q, rfl, rfl, h, ho, hl, hum⟩ := umbOf_spec hu
    obtain rfl : n = n' := by rw [← hX.1, ints_len, h.len]
    have HR := Lib.hid (unitOf_some hu)
    clear hu
    rintro e w1 ⟨B, d, rfl, hO, hb1⟩
    have h7 := h.le
    have hpos := h.pos
    have HG := Lib.hid h
    have HO := Lib.hid ho
    have HL := Lib.hid hl
    have hsame := unit_same h hl hum
    have HS3 := Lib.hid hsame.1
    have hlo : (optL (some o)).length = n := by show (ints o).length = n; rw [ints_len, hl]
    rw [hlo] at hO ⊢
    replace hO : OwnI w1 W.heap.size B n d (ints o) := hO
    have hdc := hO.cap
    have hX1 := hX0.up hb1
    have hmk := make_ints n (by omega)
    have hya := fun o o' => ((hbk.up hb1).alloc o |>.alloc o').two
    have hy1 := (hbk.up hb1).two
    obtain ⟨aa, rfl, hla, _⟩ := hX0.addr hpos
    obtain ⟨gB, rfl⟩ := hO.form (by omega)
    clear hy0 hsame hlo h hum
    simp only [Option.isSome_some]
    go_wp2_with fail
    have hU2 : Up w1 ((w1.alloc (.cells (zeros n) 3)).alloc (.cells #[.slice (some ⟨w1.heap.size, 0, none⟩) n n, .slice none 0 0] 31)) := by go_grown
    have hM := (Blk.new w1 3 (zeros n)).alloc (.cells #[.slice (some ⟨w1.heap.size, 0, none⟩) n n, .slice none 0 0] 31)
    have hB := Blk.new_at (w := w1.alloc (.cells (zeros n) 3)) (t := 31) (cs := #[.slice (some ⟨w1.heap.size, 0, none⟩) n n, .slice none 0 0]) (g := w1.heap.size + 1) (by simp)
    have hgB := (hO.block gB rfl).2
    have hl1 := hb1.size
    obtain ⟨gM, hgM⟩ : ∃ gM, gM = w1.heap.size := ⟨_, rfl⟩
    obtain ⟨bM, hbM⟩ : ∃ bM, bM = w1.heap.size + 1 := ⟨_, rfl⟩
    have hU3 := Up.then_ (Up.then_ hU0 hb1) hU2
    have hbk2 := (hbk.up hb1).up hU2
    have hbr2 := (hbr.up hb1).up hU2
    have hO2 := (hO.up hU2).ri
    have hX2 := hX1.up hU2
    rw [← hbM] at hB
    rw [← hbM]
    rw [← hgM] at hM hB hU2 hU3 hbk2 hbr2 hO2 hX2
    rw [← hgM]
    have hz : zeros n = natCells (lfo o n (rsR (adjP Q o) n 0)) := by
      rw [← natCells_zero]
      congr 1
      refine nb_ext (by simp [lfo]) fun v hv => ?_
      have hv' : v < n := by simpa using hv
      rw [nb_lfo _ hv']
      simp only [nb, rsR, List.getD_eq_getElem?_getD, List.getElem?_replicate]
      split <;> split <;> rfl
    obtain ⟨w2, hw2⟩ : ∃ w2, w2 = (w1.alloc (.cells (zeros n) 3)).alloc (.cells #[.slice (some ⟨gM, 0, none⟩) n n, .slice none 0 0] 31) := ⟨_, rfl⟩
    have hsz2 : w2.heap.size = w1.heap.size + 2 := by rw [hw2]; simp
    rw [← hw2] at hM hB hU2 hU3 hbk2 hbr2 hO2 hX2
    rw [← hw2]
    rw [hz] at hM
    have hgw : w.heap.size ≤ gM := by omega
    have hgBM : gB ≠ gM := by omega
    have haM : aa.block ≠ gM := by omega
    have hbMg : w.heap.size ≤ bM := by omega
    have hgMbM : gM < bM := by omega
    have hbM1 : w.heap.size + 1 < bM := by omega
    have hgM2 : bM < w2.heap.size := by omega
    clear hw2 hz hmk hya hy1 hbk hbr hX0 hX1 hO hU2 hgM hbM hsz2
    obtain ⟨J, hJ⟩ : ∃ J, J = adjP Q o := ⟨_, rfl⟩
    have HJ := Lib.hid hJ
    rw [← hJ] at hM HS3
    have HRl := Lib.hid fun r => rsR_le J h7 r
    have HRn := Lib.hid fun r => rsR_len J n r
    clear hJ
    go_loopw [7] (fun t wr => ∃ r : Nat, r ≤ 3 ∧ t = .int .i64 r ∧ Blk wr gM 3 (natCells (lfo o n (rsR J n r))) ∧ Blk wr bM 31 #[.slice (some ⟨gM, 0, none⟩) n n, .slice none 0 0] ∧ RI wr (some ⟨gB, 0, none⟩) n (ints o) ∧ RI wr (some aa) n (ints Q) ∧ Blk wr w.heap.size 26 #[.int .i64 n, .slice (some aa) n c] ∧ Blk wr (w.heap.size + 1) 31 #[.slice none 0 0, .slice none 0 0] ∧ Up w wr) (fun t _ => 4 - (intOf t).toNat)
    case atStart => exact ⟨0, by omega, rfl, hM, hB, hO2, hX2, hbk2, hbr2, hU3⟩
    case round =>
      clear hM hB hO2 hX2 hbk2 hbr2 hU3
      obtain ⟨r, hr, rfl, hM, hB, hO2, hX2, hbk2, hbr2, hU⟩ := hrel
      obtain ⟨wo, rfl⟩ : ∃ wo : World, wo = wr := ⟨_, rfl⟩
      have hyk := hbk2.two
      have hyB := hB.two
      have hR1 := Lib.hid (raised_any (some aa) (some ⟨gB, 0, none⟩) n c d gM n (400 * r) Q o (rsR J n r) wo hX2 hO2 HG.out HO.out HL.out (HRn.out r) hdc.1 hdc.2 hM (HRl.out r) (by omega) (fun ad e => by injection e with e; subst e; exact haM) (fun ad e => by injection e with e; subst e; exact hgBM))
      go_wp2_with fail
      refine hR1.out.mono ?_
      rintro e w5 ⟨rfl, hM5, hg5⟩
      have HF := Lib.hid (show (rsK (fun i k => edge Q (nb o i) (nb o k)) (rsR J n r, false) n).2 = rsF J n r by rw [rsF, HJ.out]; rfl)
      have HN := Lib.hid (show (rsK (fun i k => edge Q (nb o i) (nb o k)) (rsR J n r, false) n).1 = rsR J n (r + 1) by rw [rsR, HJ.out]; rfl)
      rw [HF.out]
      rw [HN.out] at hM5
      have hB5 := hB.grown hg5 (by simp; exact hB.ne_ hM (by decide))
      have hO5 := hO2.grown hg5 (fun ad e => by injection e with e; subst e; simpa using hgBM)
      have hX5 := hX2.grown hg5 (fun ad e => by injection e with e; subst e; simpa using haM)
      have hbk5 := hbk2.grown hg5 (by simp; exact hbk2.ne_ hM (by decide))
      have hbr5 := hbr2.grown hg5 (by simp; exact hbr2.ne_ hM (by decide))
      have hU5 := hU.grown hg5 hU.size (fun k hk => by cases hk; exact hgw)
      clear hR1 hM hB hO2 hX2 hbk2 hbr2 hU hyk hyB hg5
      obtain ⟨f, hf⟩ : ∃ f, f = rsF J n r := ⟨_, rfl⟩
      rw [← hf]
      cases f
      · have HE := Lib.hid (show rsR J n (r + 1) = rsR J n 3 by rw [rsR_flag hf.symm, rsR_stay (rsR_flag hf.symm) 3 hr])
        rw [HE.out] at hM5
        have HUL := Lib.hid (show lfo o n (rsR J n 3) = unitL Q o n by rw [unitL, HJ.out])
        rw [HUL.out] at hM5
        have HLl := Lib.hid (unitL_len Q o n)
        have HLb := Lib.hid (fun v (hv : v < n) => show nb (unitL Q o n) v ≤ 1200 by
          rw [unitL, nb_lfo _ hv, ← HJ.out]; exact HRl.out 3 _)
        have HUR := Lib.hid (show unitR Q o n = (unitL Q o n).map (· + 7) from rfl)
        obtain ⟨L, hL⟩ : ∃ L, L = unitL Q o n := ⟨_, rfl⟩
        rw [← hL] at hM5 HLl HLb HUR HR
        clear hf hL
        have hsz5 := hU5.size
        have hyB := hB5.two
        have hB5l := hB5.lt
        have hM5l := hM5.lt
        go_wp2
        clear hyB hO5 hX5 hbk5
        go_loopw [35] (fun t wr => ∃ (j : Nat) (B : Option Addr) (d2 : Nat), j ≤ n ∧ t = .int .i64 j ∧ Blk wr gM 3 (natCells L) ∧ Blk wr bM 31 #[.slice (some ⟨gM, 0, none⟩) n n, .slice B j d2] ∧ OwnI wr w5.heap.size B j d2 (ints ((L.take j).map (· + 7))) ∧ Blk wr (w.heap.size + 1) 31 #[.slice none 0 0, .slice none 0 0] ∧ w5.heap.size ≤ wr.heap.size ∧ Below w.heap.size w wr) (fun t _ => n - (intOf t).toNat)
        case atStart => exact ⟨0, none, 0, Nat.zero_le _, rfl, hM5, hB5, by simpa [ints] using OwnI.nil_ w5 w5.heap.size, hbr5, Nat.le_refl _, hU5⟩
        case round =>
          clear hM5 hB5 hbr5 hU5
          obtain ⟨j, B, d2, hj, rfl, hM, hB, hR, hbr, hsz, hb⟩ := hrel
          obtain ⟨wi, rfl⟩ : ∃ wi : World, wi = wr := ⟨_, rfl⟩
          have hyB := hB.two
          by_cases hjn : j < n
          · have hcL := hM.nat (j := j) (by rw [HLl.out]; exact hjn)
            have hyb := HLb.out j hjn
            have HT := Lib.hid (take_snoc7 (L := L) (j := j) (by rw [HLl.out]; exact hjn))
            obtain ⟨y, hy⟩ : ∃ y, y = nb L j := ⟨_, rfl⟩
            rw [← hy] at hcL hyb HT
            clear hy
            have HE7 := Lib.hid (show ints ((L.take (j + 1)).map (· + 7)) = ints ((L.take j).map (· + 7)) ++ [(y : Int) + 7] by rw [HT.out]; simp [ints])
            go_wp2_with (at_builtin; refine wpList_push rfl (.tmp 40) (.tmp 43) rfl ((y : Int) + 7) rfl (hR.alloc (.cells #[.int .i64 ((y : Int) + 7)] 3)) ⟨wi.heap.size, 0, none⟩ rfl (cell_lit rfl) (by omega) (by simp; omega) ?_; intro A7 c7 w7 hR7 hb7 hg7; have hB7 := (hB.alloc (.cells #[.int .i64 ((y : Int) + 7)] 3)).below hb7 hB5l; have hM7 := (hM.alloc (.cells #[.int .i64 ((y : Int) + 7)] 3)).below hb7 hM5l; have hyB7 := hB7.two; have hfB7 := hB7.frozen 1)
            have hbr7 := (hbr.alloc (.cells #[.int .i64 ((y : Int) + 7)] 3)).below hb7 (by omega)
            have hbs := hb.size
            have hb8 : Below w.heap.size w w7 := (hb.alloc hbs (.cells #[.int .i64 ((y : Int) + 7)] 3)).trans (hb7.mono (by omega : w.heap.size ≤ w5.heap.size))
            have hs7 := hb7.size
            simp only [World.size_alloc] at hs7
            go_wp2_with fail
            go_roundw
            case rel => exact ⟨j + 1, A7, c7, by omega, by go_num, hM7.far (hM7.ne_ hB7 (by decide)) _, hB7.set_ 1 _, (by rw [HE7.out]; exact hR7.other_store (i := 1) hB7 (by decide) _), hbr7.far (by simp; omega) _, by simp; omega, hb8.setCell (p := ⟨bM, 1, none⟩) hbMg _⟩
            case measure => simp [intOf]; omega
          · obtain rfl : j = n := by omega
            have f0 := hbr.frozen 0
            have f1 := hbr.frozen 1
            have hyr := hbr.two
            have HRt := Lib.hid (show ints ((L.take j).map (· + 7)) = ints (unitR Q o j) by rw [HUR.out, List.take_of_length_le (by rw [HLl.out]; exact Nat.le_refl _)])
            rw [HRt.out] at hR
            have HRl2 := Lib.hid (unitR_len Q o j)
            have hgMl := hM.own (base := w.heap.size) (n := j) hgw (by rw [natCells_size, HLl.out]) (by unfold maxLen; omega)
            have hL1 : OwnI wi w.heap.size (some ⟨gM, 0, none⟩) j j (ints L) := by unfold OwnI; exact hgMl
            have hfin := ((hbr.set_ 0 (.slice (some ⟨gM, 0, none⟩) j j)).set_ 1 (.slice B j d2)).two
            have hbf := (hb.setCell (p := ⟨w.heap.size + 1, 0, none⟩) (by simp) (.slice (some ⟨gM, 0, none⟩) j j)).setCell (p := ⟨w.heap.size + 1, 1, none⟩) (by simp) (.slice B j d2)
            have hLf := (hL1.other_store (i := 0) hbr (by decide) (.slice (some ⟨gM, 0, none⟩) j j)).other_store (i := 1) (hbr.set_ 0 (.slice (some ⟨gM, 0, none⟩) j j)) (by decide) (.slice B j d2)
            have hRf := (hR.other_store (i := 0) hbr (by decide) (.slice (some ⟨gM, 0, none⟩) j j)).other_store (i := 1) (hbr.set_ 0 (.slice (some ⟨gM, 0, none⟩) j j)) (by decide) (.slice B j d2)
            have hap : ∀ k, (Value.slice (some ⟨gM, 0, none⟩) j j).ownBlock = some k → (Value.slice B j d2).ownBlock ≠ some k := fun k hk e => by
              have h1 := (hR.block k e).1
              have h2 : gM = k := by simpa [Value.ownBlock] using hk
              omega
            go_wp2
            generalize (wi.setCell ⟨w.heap.size + 1, 0, none⟩ (.slice (some ⟨gM, 0, none⟩) j j)).setCell ⟨w.heap.size + 1, 1, none⟩ (.slice B j d2) = Wf at hfin hbf hLf hRf ⊢
            refine bodyPost_ret (v := .tuple #[.agg #[.slice (some ⟨gM, 0, none⟩) j j, .slice B j d2], .bool true]) ?_ rfl ?_
            · simp [results, Tryz.results9, go_sem, hfin]
            rw [HR.out]
            exact givesTB_of HLl.out HRl2.out hLf (hRf.more (by omega)) hap (Nat.le_refl _) hbf
      · have hr3 : r ≠ 3 := fun e => by subst e; rw [HS3.out] at hf; cases hf
        clear hf
        go_wp2
        go_roundw
        case rel => exact ⟨r + 1, by omega, by go_num, hM5, hB5, hO5, hX5, hbk5, hbr5, hU5⟩
        case measure => simp [intOf]; omega
end Go.Proofs.YthncdjcmlpiebaaGreat
