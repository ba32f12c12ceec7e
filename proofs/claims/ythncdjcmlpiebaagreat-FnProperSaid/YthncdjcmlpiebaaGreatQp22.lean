/- Walks of chapter 12: UnitModelOf, the reference's. -/
import Derived.Test.YthncdjcmlpiebaaGreatQp04
import Derived.Test.YthncdjcmlpiebaaGreatQp19
import Derived.Deep.Cut
import Derived.Deep.CutRange
import Derived.Deep.RegionWith
namespace Go.Proofs.YthncdjcmlpiebaaGreat
open Go.RowKit
set_option maxRecDepth 100000 in
theorem slst_le {J : Nat → Nat → Bool} {x : List Nat} {M : Nat} (h : ∀ i, nb x i ≤ M) (i k : Nat) : slst J x i k ≤ M + 8 := by
  have := h k
  unfold slst
  split
  · split <;> omega
  · split <;> omega
set_option maxRecDepth 100000 in
theorem stK_len (J : Nat → Nat → Bool) (x : List Nat) (i : Nat) : ∀ k, (stK J x i k).length = x.length
  | 0 => rfl
  | k + 1 => by rw [stK, List.length_set, stK_len J x i k]
set_option maxRecDepth 100000 in
theorem stI_len (J : Nat → Nat → Bool) (n : Nat) (x : List Nat) : ∀ i, (stI J n x i).length = x.length
  | 0 => rfl
  | i + 1 => by rw [stI, stK_len, stI_len J n x i]
set_option maxRecDepth 100000 in
theorem stR_len (J : Nat → Nat → Bool) (n : Nat) : ∀ r, (stR J n r).length = n
  | 0 => by simp [stR]
  | r + 1 => by rw [stR, stI_len, stR_len J n r]
set_option maxRecDepth 100000 in
theorem nb_set_le {x : List Nat} {i y M : Nat} (h : ∀ i, nb x i ≤ M) (hy : y ≤ M) (j : Nat) : nb (x.set i y) j ≤ M := by
  rcases Nat.lt_or_ge i x.length with hi | hi
  · rw [nb_set' hi]
    split
    · exact hy
    · exact h j
  · rw [List.set_eq_of_length_le hi]; exact h j
set_option maxRecDepth 100000 in
theorem stK_le {J : Nat → Nat → Bool} {x : List Nat} {M i : Nat} (h : ∀ i, nb x i ≤ M) : ∀ k j, nb (stK J x i k) j ≤ M + 8 * k
  | 0, j => by have := h j; rw [stK]; omega
  | k + 1, j => by
    rw [stK]
    have ih := stK_le (J := J) (i := i) h k
    have h1 := slst_le (J := J) ih i k
    have h2 := ih i
    exact nb_set_le (M := M + 8 * (k + 1)) (fun j => by have := ih j; omega) (by omega) j
set_option maxRecDepth 100000 in
theorem stI_le {J : Nat → Nat → Bool} {n : Nat} (h7 : n ≤ 7) {x : List Nat} {M : Nat} (h : ∀ i, nb x i ≤ M) : ∀ i, i ≤ n → ∀ j, nb (stI J n x i) j ≤ M + 56 * i
  | 0, _, j => by have := h j; rw [stI]; omega
  | i + 1, hi, j => by
    rw [stI]
    have := stK_le (J := J) (i := i) (stI_le (J := J) h7 h i (by omega)) n j
    omega
set_option maxRecDepth 100000 in
theorem stR_le (J : Nat → Nat → Bool) {n : Nat} (h7 : n ≤ 7) : ∀ r j, nb (stR J n r) j ≤ 400 * r
  | 0, j => by
    unfold nb stR
    simp only [List.getD_eq_getElem?_getD, List.getElem?_replicate]
    split <;> simp
  | r + 1, j => by
    rw [stR]
    have := stI_le (J := J) h7 (stR_le J h7 r) n (Nat.le_refl _) j
    omega
set_option maxRecDepth 100000 in
theorem add_0x (g k : Nat) : (⟨g, 0, none⟩ : Addr).add k = ⟨g, k, none⟩ := by unfold Addr.add; split <;> simp_all
set_option maxRecDepth 100000 in
theorem imax_n (a b : Nat) : max (a : Int) (b : Int) = ((max a b : Nat) : Int) := by omega
set_option maxRecDepth 100000 in
theorem imax_if (a b : Int) : max a b = if a < b then b else a := by split <;> omega
set_option maxRecDepth 100000 in
theorem max_n (a b : Nat) : (if a < b then (b : Int) else (a : Int)) = ((max a b : Nat) : Int) := by split <;> omega
set_option maxRecDepth 100000 in
theorem max_z {a l : Nat} {z : Int} (hz : z = (l : Int) ∨ (z ≤ 0 ∧ l = 0)) : (if (a : Int) < z then z else (a : Int)) = ((max a l : Nat) : Int) := by split <;> omega
set_option maxRecDepth 100000 in
theorem tri1 (w : World) (c1 : Array Value) (t1 : TypeId) (O2 O3 : Obj) : Blk (((w.alloc (.cells c1 t1)).alloc O2).alloc O3).drew w.heap.size t1 c1 := (((Blk.new w _ _).alloc _).alloc _).drew
set_option maxRecDepth 100000 in
theorem tri2 (w : World) (O1 : Obj) (c2 : Array Value) (t2 : TypeId) (O3 : Obj) : Blk (((w.alloc O1).alloc (.cells c2 t2)).alloc O3).drew (w.heap.size + 1) t2 c2 := ((Blk.new_at (by simp)).alloc _).drew
set_option maxRecDepth 100000 in
theorem tri3 (w : World) (O1 O2 : Obj) (c3 : Array Value) (t3 : TypeId) : Blk (((w.alloc O1).alloc O2).alloc (.cells c3 t3)).drew (w.heap.size + 1 + 1) t3 c3 := (Blk.new_at (by simp)).drew
set_option maxRecDepth 100000 in
theorem tri_cut (t : TypeId) {wr wx : World} {n bI gL gR : Nat} (h1 : Blk wx bI t #[.slice (some ⟨gL, 0, none⟩) n n, .slice (some ⟨gR, 0, none⟩) n n]) (h2 : Blk wx gL 3 (zeros n)) (h3 : Blk wx gR 3 (zeros n)) (h4 : Up wr wx) (h5 : wr.heap.size ≤ bI) (h6 : wr.heap.size ≤ gL) (h7 : wr.heap.size ≤ gR) (h8 : gL ≠ gR) :
    ∃ bI' gL' gR' : Nat, Value.pointer (some ⟨bI, 0, none⟩) = .pointer (some ⟨bI', 0, none⟩) ∧ wr.heap.size ≤ bI' ∧ wr.heap.size ≤ gL' ∧ wr.heap.size ≤ gR' ∧ gL' ≠ gR' ∧ Blk wx bI' t #[.slice (some ⟨gL', 0, none⟩) n n, .slice (some ⟨gR', 0, none⟩) n n] ∧ Blk wx gL' 3 (zeros n) ∧ Blk wx gR' 3 (zeros n) ∧ Up wr wx := ⟨_, _, _, rfl, h5, h6, h7, h8, h1, h2, h3, h4⟩
set_option maxRecDepth 100000 in
theorem nb_map7 {l : List Nat} {k : Nat} (h : k < l.length) : nb (l.map (· + 7)) k = nb l k + 7 := by
  simp [nb, List.getD, List.getElem?_map, List.getElem?_eq_getElem h]
set_option maxRecDepth 100000 in
theorem unit_done {o L R x : List Nat} {n : Nat} (ho : natVerts n o) (hl : o.length = n) (hL : L.length = n) (hR : R.length = n) (h : ∀ j, j < n → nb L (nb o j) = nb x j ∧ nb R (nb o j) = nb x j + 7) : L = lfo o n x ∧ R = (lfo o n x).map (· + 7) := by
  have at_ : ∀ v, v < n → ∃ j, j < n ∧ nb o j = v := fun v hv => by
    obtain ⟨j, hj, e⟩ := List.mem_iff_getElem.1 (ho.all hl hv)
    exact ⟨j, by omega, by simp [nb, List.getD, List.getElem?_eq_getElem hj, e]⟩
  constructor
  · refine nb_ext (by rw [hL, lfo_len]) fun v hv => ?_
    obtain ⟨j, hj, rfl⟩ := at_ v (by omega)
    rw [(h j hj).1, lfo_at ho hl _ hj]
  · refine nb_ext (by rw [hR, List.length_map, lfo_len]) fun v hv => ?_
    obtain ⟨j, hj, rfl⟩ := at_ v (by omega)
    rw [(h j hj).2, nb_map7 (by rw [lfo_len]; exact ho.at_ (by omega)), lfo_at ho hl _ hj]
/-- What stands while ends are raised. -/
structure SzInv (w : World) (A : Option Addr) (Q : List Nat) (gX gB n ca : Nat) (o : List Nat) (wr : World) (x : List Nat) : Prop where
  len : x.length = n
  m : Blk wr gX 3 (natCells x)
  ord : RI wr (some ⟨gB, 0, none⟩) n (ints o)
  g : Blk wr w.heap.size 26 #[.int .i64 n, .slice A n ca]
  r : Blk wr (w.heap.size + 1) 31 #[.slice none 0 0, .slice none 0 0]
  row : RI wr A n (ints Q)
  below : Below w.heap.size w wr
section
variable {w : World} {A : Option Addr} {Q : List Nat} {gX gB n ca : Nat} {o : List Nat} {wr w' : World} {x : List Nat}
set_option maxRecDepth 100000 in
theorem SzInv.up (I : SzInv w A Q gX gB n ca o wr x) (hb : Up wr w') : SzInv w A Q gX gB n ca o w' x := ⟨I.len, I.m.up hb, I.ord.up hb, I.g.up hb, I.r.up hb, I.row.up hb, Up.then_ I.below hb⟩
set_option maxRecDepth 100000 in
theorem SzInv.put (I : SzInv w A Q gX gB n ca o wr x) (hgB : gB ≠ gX) (hA : ∀ ad, A = some ad → ad.block ≠ gX) (hgX : w.heap.size ≤ gX) (i y : Nat) : SzInv w A Q gX gB n ca o (wr.setCell ⟨gX, i, none⟩ (.int .i64 (y : Int))) (x.set i y) := by
  have h1 := I.m.set_ i (.int .i64 (y : Int))
  rw [natCells_set] at h1
  have hg := grown_setCell wr ⟨gX, i, none⟩ (.int .i64 (y : Int))
  exact ⟨by rw [List.length_set]; exact I.len, h1, I.ord.grown hg (fun ad e => by injection e with e; subst e; simpa using hgB), I.g.far (I.g.ne_ I.m (by decide)) _, I.r.far (I.r.ne_ I.m (by decide)) _, I.row.grown hg (fun ad e => by have := hA ad e; simpa using this), I.below.setCell hgX _⟩
end
set_option maxRecDepth 100000 in
theorem SzInv.far {w : World} {A : Option Addr} {Q : List Nat} {gX gB n ca : Nat} {o : List Nat} {wr : World} {x : List Nat} {b : Nat} {p : Addr} (I : SzInv w A Q gX gB n ca o wr x) (hp : b ≤ p.block) (h1 : gX < b) (h2 : gB < b) (h3 : w.heap.size + 1 < b) (hA : ∀ ad, A = some ad → ad.block < b) (u : Value) : SzInv w A Q gX gB n ca o (wr.setCell p u) x := by
  have hg := grown_setCell wr p u
  exact ⟨I.len, I.m.far (by omega) u, I.ord.grown hg (fun ad e => by injection e with e; subst e; simp; omega), I.g.far (by omega) u, I.r.far (by omega) u, I.row.grown hg (fun ad e => by have := hA ad e; simp; omega), I.below.setCell (by omega) u⟩
set_option maxRecDepth 100000 in
set_option maxHeartbeats 4000000 in
theorem specUnitModelOf_any (N : Int) (A : Option Addr) (n c : Nat) (X : List Int) (w : World) (hX : RI w A n X) (hn : n ≤ 9223372036854775807) :
    Calls Tryz.prog 10 #[.agg #[.int .i64 N, .slice A n c]] w (GivesTB (unitOf N X).1 (unitOf N X).2.1 (unitOf N X).2.2 w) := by
  have hbk := (Blk.new w 26 #[.int .i64 N, .slice A n c]).alloc (.cells #[.slice none 0 0, .slice none 0 0] 31)
  have hbr := Blk.new_at (w := w.alloc (.cells #[.int .i64 N, .slice A n c] 26)) (t := 31) (cs := #[.slice none 0 0, .slice none 0 0]) (g := w.heap.size + 1) (by simp)
  have hU0 : Up w ((w.alloc (.cells #[.int .i64 N, .slice A n c] 26)).alloc (.cells #[.slice none 0 0, .slice none 0 0] 31)) := by go_grown
  have hl0 : w.heap.size + 2 = ((w.alloc (.cells #[.int .i64 N, .slice A n c] 26)).alloc (.cells #[.slice none 0 0, .slice none 0 0] 31)).heap.size := by simp
  obtain ⟨W, hW⟩ : ∃ W, W = (w.alloc (.cells #[.int .i64 N, .slice A n c] 26)).alloc (.cells #[.slice none 0 0, .slice none 0 0] 31) := ⟨_, rfl⟩
  rw [← hW] at hbk hbr hU0 hl0
  have hX0 := hX.up hU0
  have hy0 := hbk.two
  go_enter Tryz.func10, Tryz.ntmps10
  go_wp2_with fail
  rw [← hW]
  clear hW
  refine (specUmbrellaOf_any N A n c X _ hX0 hn).mono ?_
  rcases hu : umbOf N X with _ | o
  · have HR := Lib.hid (unitOf_none hu)
    clear hu
    rintro e w1 ⟨B, d, rfl, hO, hb1⟩
    have hbr1 := hbr.up hb1
    have e1 := hbr1.two
    have f0 := hbr1.frozen 0
    have f1 := hbr1.frozen 1
    have hfin := ((hbr1.set_ 0 (.slice none 0 0)).set_ 1 (.slice none 0 0)).two
    have hbf := ((Up.then_ hU0 hb1).setCell (p := ⟨w.heap.size + 1, 0, none⟩) (by simp) (.slice none 0 0)).setCell (p := ⟨w.heap.size + 1, 1, none⟩) (by simp) (.slice none 0 0)
    simp only [optL, Option.isSome_none]
    go_wp2
    generalize (w1.setCell ⟨w.heap.size + 1, 0, none⟩ (.slice none 0 0)).setCell ⟨w.heap.size + 1, 1, none⟩ (.slice none 0 0) = Wf at hfin hbf ⊢
    refine bodyPost_ret (v := .tuple #[.agg #[.slice none 0 0, .slice none 0 0], .bool false]) ?_ rfl ?_
    · simp [results, Tryz.results10, go_sem, hfin]
    rw [HR.out]
    exact ⟨none, 0, none, 0, rfl, OwnI.nil_ _ _, OwnI.nil_ _ _, (fun j h => by simp [Value.ownBlock] at h), hbf⟩
  · obtain ⟨n', Q, rfl, rfl, h, ho, hl, hum⟩ := umbOf_spec hu
    obtain rfl : n = n' := by rw [← hX.1, ints_len, h.len]
    have HR := Lib.hid (unitOf_some hu)
    clear hu
    rintro e w1 ⟨B, d, rfl, hO, hb1⟩
    have h7 := h.le
    have hpos := h.pos
    have HG := Lib.hid h
    have HO := Lib.hid ho
    have HL := Lib.hid hl
    have HSm := Lib.hid (unit_same h hl hum).2
    have hlo : (optL (some o)).length = n := by show (ints o).length = n; rw [ints_len, hl]
    rw [hlo] at hO ⊢
    replace hO : OwnI w1 W.heap.size B n d (ints o) := hO
    have hmk := make_ints n (by omega)
    have hy1 := (hbk.up hb1).two
    obtain ⟨gB, rfl⟩ := hO.form (by omega)
    have hgB := (hO.block gB rfl).2
    have hAx : ∀ ad, A = some ad → ad.block ≠ w1.heap.size := fun ad e => by
      obtain ⟨ad', e', hlt, _⟩ := hX0.at_ (k := 0) (by omega)
      rw [e] at e'
      injection e' with e'
      subst e'
      have := hb1.size
      omega
    have I0 : SzInv w A Q w1.heap.size gB n c o (w1.alloc (.cells (natCells (List.replicate n 0)) 3)) (List.replicate n 0) := by
      have hu : Up w1 (w1.alloc (.cells (natCells (List.replicate n 0)) 3)) := by go_grown
      exact ⟨by simp, Blk.new _ _ _, (hO.up hu).ri, (hbk.up hb1).up hu, (hbr.up hb1).up hu, (hX0.up hb1).up hu, Up.then_ (Up.then_ hU0 hb1) hu⟩
    rw [natCells_zero] at I0
    have hgX : w.heap.size ≤ w1.heap.size := by have := hb1.size; omega
    have hgBX : gB ≠ w1.heap.size := by omega
    clear hy0 hlo h hum hO hbk hbr
    simp only [Option.isSome_some]
    go_wp2_with fail
    obtain ⟨gX, hgXe⟩ : ∃ gX, gX = w1.heap.size := ⟨_, rfl⟩
    rw [← hgXe] at I0 hgX hgBX hAx
    rw [← hgXe]
    obtain ⟨w2, hw2⟩ : ∃ w2, w2 = w1.alloc (.cells (zeros n) 3) := ⟨_, rfl⟩
    rw [← hw2] at I0
    rw [← hw2]
    clear hw2 hgXe hmk hy1 hgB
    obtain ⟨J, hJ⟩ : ∃ J, J = adjP Q o := ⟨_, rfl⟩
    have HJ := Lib.hid hJ
    rw [← hJ] at HSm
    have HRl := Lib.hid fun r => stR_le J h7 r
    have HRn := Lib.hid fun r => stR_len J n r
    have HIn := Lib.hid fun r i => (stI_len J n (stR J n r) i).trans (stR_len J n r)
    have HIl := Lib.hid fun r i (hi : i ≤ n) => stI_le (J := J) h7 (stR_le J h7 r) i hi
    obtain ⟨nn, hnn⟩ : ∃ nn, nn = n * n := ⟨_, rfl⟩
    have hnl : nn ≤ 49 := by rw [hnn]; exact Nat.mul_le_mul h7 h7
    have hnI : (n : Int) * (n : Int) = (nn : Int) := by rw [hnn]; simp
    rw [← hnn] at HSm
    clear hnn hJ
    go_loopw [8] (fun t wr => ∃ (r : Nat) (x : List Nat), r ≤ nn + 1 ∧ t = .int .i64 r ∧ Hid (x = stR J n r) ∧ SzInv w A Q gX gB n c o wr x) (fun t _ => nn + 1 - (intOf t).toNat)
    case atStart => exact ⟨0, _, by omega, rfl, rfl, I0⟩
    case round =>
      clear I0
      obtain ⟨r, xr, hr, rfl, hxr, I⟩ := hrel
      by_cases hrn : r ≤ nn
      · go_wp2
        go_loopw [9] (fun t wr => ∃ (i : Nat) (x : List Nat), i ≤ n ∧ t = .int .i64 i ∧ Hid (x = stI J n xr i) ∧ SzInv w A Q gX gB n c o wr x) (fun t _ => n - (intOf t).toNat)
        case atStart => exact ⟨0, _, by omega, rfl, rfl, I⟩
        case round =>
          clear I
          obtain ⟨i, x0, hi, rfl, hx0, I⟩ := hrel
          by_cases hin : i < n
          · go_wp2
            go_loopw [10] (fun t wr => ∃ (k : Nat) (x : List Nat), k ≤ n ∧ t = .int .i64 k ∧ Hid (x = stK J x0 i k) ∧ SzInv w A Q gX gB n c o wr x) (fun t _ => n - (intOf t).toNat)
            case atStart => exact ⟨0, _, by omega, rfl, rfl, I⟩
            case round =>
              clear I
              obtain ⟨k, x, hk, rfl, hx, I⟩ := hrel
              obtain ⟨wo, rfl⟩ : ∃ wo : World, wo = wr := ⟨_, rfl⟩
              by_cases hkn : k < n
              · have hy := I.g.two
                have hlg := I.g.lt
                have hcB1 : wo.cell? ⟨gB, k, none⟩ = some (.int .i64 (nb o k)) := by have := I.ord.nbs hkn; rwa [add_0x] at this
                have hcB2 : wo.cell? ⟨gB, i, none⟩ = some (.int .i64 (nb o i)) := by have := I.ord.nbs hin; rwa [add_0x] at this
                have hgBl : gB < wo.heap.size := by have := World.block_lt_of_cell? wo _ hcB1; exact this
                have hvk := HO.out.at_ (j := k) (by rw [HL.out]; exact hkn)
                have hvi := HO.out.at_ (j := i) (by rw [HL.out]; exact hin)
                have hxb := Lib.hid (fun j => show nb x j ≤ 25000 by
                  rw [hx.out]
                  have h1 := stK_le (J := J) (i := i) (M := 400 * r + 56 * i) (x := x0) (by rw [hx0.out, hxr.out]; exact HIl.out r i hi) k j
                  omega)
                have HJ1 := Lib.hid (show J k i = (nb Q (nb o k)).testBit (nb o i) by rw [HJ.out]; rfl)
                have HJ2 := Lib.hid (show J i k = (nb Q (nb o i)).testBit (nb o k) by rw [HJ.out]; rfl)
                have hb1 := hxb.out i
                have hb2 := hxb.out k
                obtain ⟨xi, hxi⟩ : ∃ xi, xi = nb x i := ⟨_, rfl⟩
                obtain ⟨xk, hxk⟩ : ∃ xk, xk = nb x k := ⟨_, rfl⟩
                rw [← hxi] at hb1
                rw [← hxk] at hb2
                have HXi := Lib.hid hxi
                have HXk := Lib.hid hxk
                clear hxi hxk hxb
                obtain ⟨vk, hvk'⟩ : ∃ vk, vk = nb o k := ⟨_, rfl⟩
                obtain ⟨vi, hvi'⟩ : ∃ vi, vi = nb o i := ⟨_, rfl⟩
                rw [← hvk'] at hcB1 hvk HJ1 HJ2
                rw [← hvi'] at hcB2 hvi HJ1 HJ2
                clear hvk' hvi'
                by_cases hki : k < i
                · obtain ⟨f, hf⟩ : ∃ f, f = J k i := ⟨_, rfl⟩
                  have HJf := Lib.hid hf.symm
                  have HF := Lib.hid (HJ1.out.symm.trans hf.symm)
                  clear hf
                  cases f
                  · go_wp2_with fail
                    have hV0 : Up wo wo.drew := (Up.refl _).drew
                    refine wp_region_held_drew (S := (fun w' => Up wo w' ∧ (∀ b o, b < wo.heap.size → w'.cell? ⟨b, o, none⟩ = wo.cell? ⟨b, o, none⟩) ∧ w'.cell? (⟨gB, k, none⟩) = some (.int .i64 (vk : Nat)) ∧ w'.cell? (⟨gB, i, none⟩) = some (.int .i64 (vi : Nat)))) (by kernel_rfl) (by exact ⟨hV0, fun _ _ hb => hV0.cell hb, (hV0.cell (by first | assumption | (rw [block_of_add]; assumption))).trans (by assumption), (hV0.cell (by first | assumption | (rw [block_of_add]; assumption))).trans (by assumption)⟩) (fun hHeld => ?_)
                    refine wpAnyH_take (i := 0) (v := ?_) rfl (by kernel_rfl) (by kernel_rfl) (by kernel_rfl) (fun _ _ _ h => h) (Or.inl ⟨by rfl, ?_⟩) (by assumption) ?_
                    rotate_left
                    · (intro w' hSw; go_simp; try with_reducible rfl)
                    (try simp only [List.getElem_toArray]); (try simp only [List.getElem_cons_succ]); (try simp only [List.getElem_cons_zero]); (try simp only [Act.put]); (try simp only [List.setIfInBounds_toArray]); (try simp only [List.set_cons_succ]); (try simp only [List.set_cons_zero])
                    refine wpAnyH_take (i := 1) (v := ?_) rfl (by kernel_rfl) (by kernel_rfl) (by kernel_rfl) (fun _ _ _ h => h) (Or.inl ⟨by rfl, ?_⟩) (by assumption) ?_
                    rotate_left
                    · (intro w' hSw; go_simp; try with_reducible rfl)
                    (try simp only [List.getElem_toArray]); (try simp only [List.getElem_cons_succ]); (try simp only [List.getElem_cons_zero]); (try simp only [Act.put]); (try simp only [List.setIfInBounds_toArray]); (try simp only [List.set_cons_succ]); (try simp only [List.set_cons_zero])
                    refine wpAnyH_take (i := 2) (v := ?_) rfl (by kernel_rfl) (by kernel_rfl) (by kernel_rfl) (fun _ _ _ h => h) (Or.inl ⟨by rfl, ?_⟩) (by assumption) ?_
                    rotate_left
                    · (intro w' hSw; go_simp; try with_reducible rfl)
                    (try simp only [List.getElem_toArray]); (try simp only [List.getElem_cons_succ]); (try simp only [List.getElem_cons_zero]); (try simp only [Act.put]); (try simp only [List.setIfInBounds_toArray]); (try simp only [List.set_cons_succ]); (try simp only [List.set_cons_zero])
                    refine wpAnyH_take (i := 3) (v := ?_) rfl (by kernel_rfl) (by kernel_rfl) (by kernel_rfl) (fun _ _ _ h => h) (Or.inl ⟨by rfl, ?_⟩) (by assumption) ?_
                    rotate_left
                    · (intro w' hSw; go_simp; try with_reducible rfl)
                    (try simp only [List.getElem_toArray]); (try simp only [List.getElem_cons_succ]); (try simp only [List.getElem_cons_zero]); (try simp only [Act.put]); (try simp only [List.setIfInBounds_toArray]); (try simp only [List.set_cons_succ]); (try simp only [List.set_cons_zero])
                    refine wpAnyH_take (i := 4) (v := ?_) rfl (by kernel_rfl) (by kernel_rfl) (by kernel_rfl) (fun _ _ _ h => h) (Or.inl ⟨by rfl, ?_⟩) (by assumption) ?_
                    rotate_left
                    · (intro w' hSw; go_simp; try with_reducible rfl)
                    (try simp only [List.getElem_toArray]); (try simp only [List.getElem_cons_succ]); (try simp only [List.getElem_cons_zero]); (try simp only [Act.put]); (try simp only [List.setIfInBounds_toArray]); (try simp only [List.set_cons_succ]); (try simp only [List.set_cons_zero])
                    refine wpAnyH_take (i := 5) (v := ?_) rfl (by kernel_rfl) (by kernel_rfl) (by kernel_rfl) (fun _ _ _ h => h) (Or.inl ⟨by rfl, ?_⟩) (by assumption) ?_
                    rotate_left
                    · (intro w' hSw; go_simp; try with_reducible rfl)
                    (try simp only [List.getElem_toArray]); (try simp only [List.getElem_cons_succ]); (try simp only [List.getElem_cons_zero]); (try simp only [Act.put]); (try simp only [List.setIfInBounds_toArray]); (try simp only [List.set_cons_succ]); (try simp only [List.set_cons_zero])
                    refine wpAnyH_take (i := 6) (v := ?_) rfl (by kernel_rfl) (by kernel_rfl) (by kernel_rfl) (fun _ _ _ h => h) (Or.inl ⟨by rfl, ?_⟩) (by assumption) ?_
                    rotate_left
                    · (intro w' hSw; go_simp; try with_reducible rfl)
                    (try simp only [List.getElem_toArray]); (try simp only [List.getElem_cons_succ]); (try simp only [List.getElem_cons_zero]); (try simp only [Act.put]); (try simp only [List.setIfInBounds_toArray]); (try simp only [List.set_cons_succ]); (try simp only [List.set_cons_zero])
                    refine wpAnyH_take (i := 7) (v := ?_) rfl (by kernel_rfl) (by kernel_rfl) (by kernel_rfl) (fun _ _ _ h => h) (Or.inl ⟨by rfl, ?_⟩) (by assumption) ?_
                    rotate_left
                    · (intro w' hSw; go_simp; try with_reducible rfl)
                    (try simp only [List.getElem_toArray]); (try simp only [List.getElem_cons_succ]); (try simp only [List.getElem_cons_zero]); (try simp only [Act.put]); (try simp only [List.setIfInBounds_toArray]); (try simp only [List.set_cons_succ]); (try simp only [List.set_cons_zero])
                    refine wpAnyH_take (i := 8) (v := ?_) rfl (by kernel_rfl) (by kernel_rfl) (by kernel_rfl) (fun _ _ _ h => h) (Or.inl ⟨by rfl, ?_⟩) (by assumption) ?_
                    rotate_left
                    · (intro w' hSw; go_simp; try with_reducible rfl)
                    (try simp only [List.getElem_toArray]); (try simp only [List.getElem_cons_succ]); (try simp only [List.getElem_cons_zero]); (try simp only [Act.put]); (try simp only [List.setIfInBounds_toArray]); (try simp only [List.set_cons_succ]); (try simp only [List.set_cons_zero])
                    refine wpAnyH_take (i := 9) (v := ?_) rfl (by kernel_rfl) (by kernel_rfl) (by kernel_rfl) (fun _ _ _ h => h) (Or.inl ⟨by rfl, ?_⟩) (by assumption) ?_
                    rotate_left
                    · (intro w' hSw; go_simp; try with_reducible rfl)
                    (try simp only [List.getElem_toArray]); (try simp only [List.getElem_cons_succ]); (try simp only [List.getElem_cons_zero]); (try simp only [Act.put]); (try simp only [List.setIfInBounds_toArray]); (try simp only [List.set_cons_succ]); (try simp only [List.set_cons_zero])
                    refine wpAnyH_take (i := 10) (v := ?_) rfl (by kernel_rfl) (by kernel_rfl) (by kernel_rfl) (fun _ _ _ h => h) (Or.inl ⟨by rfl, ?_⟩) (by assumption) ?_
                    rotate_left
                    · (intro w' hSw; go_simp; try with_reducible rfl)
                    (try simp only [List.getElem_toArray]); (try simp only [List.getElem_cons_succ]); (try simp only [List.getElem_cons_zero]); (try simp only [Act.put]); (try simp only [List.setIfInBounds_toArray]); (try simp only [List.set_cons_succ]); (try simp only [List.set_cons_zero])
                    refine wpAnyH_take (i := 11) (v := ?_) rfl (by kernel_rfl) (by kernel_rfl) (by kernel_rfl) (fun _ _ _ h => h) (Or.inl ⟨by rfl, ?_⟩) (by assumption) ?_
                    rotate_left
                    · (intro w' hSw; go_simp; try with_reducible rfl)
                    (try simp only [List.getElem_toArray]); (try simp only [List.getElem_cons_succ]); (try simp only [List.getElem_cons_zero]); (try simp only [Act.put]); (try simp only [List.setIfInBounds_toArray]); (try simp only [List.set_cons_succ]); (try simp only [List.set_cons_zero])
                    refine wpAnyH_take (i := 12) (v := ?_) rfl (by kernel_rfl) (by kernel_rfl) (by kernel_rfl) (fun _ _ _ h => h) (Or.inl ⟨by rfl, ?_⟩) (by assumption) ?_
                    rotate_left
                    · (intro w' hSw; go_simp; try with_reducible rfl)
                    (try simp only [List.getElem_toArray]); (try simp only [List.getElem_cons_succ]); (try simp only [List.getElem_cons_zero]); (try simp only [Act.put]); (try simp only [List.setIfInBounds_toArray]); (try simp only [List.set_cons_succ]); (try simp only [List.set_cons_zero])
                    refine wpAnyH_ready (rs := [13]) (by kernel_rfl) (by simp) ?_
                    refine AllReadyH.cons rfl (fun K hK => ?_) AllReadyH.nil
                    go_simp
                    go_at_call 69
                    refine (l2Edge_is (N := (n : Int)) (c := c) (I.row.up hV0) HG.out hvk hvi HF.out).mono ?_
                    rintro e w10 ⟨rfl, hb10⟩
                    have hV1 := Up.then_ hV0 hb10
                    go_wp2_with fail
                    refine hK.out _ _ (by exact ⟨hV1, fun _ _ hb => hV1.cell hb, (hV1.cell (by first | assumption | (rw [block_of_add]; assumption))).trans (by assumption), (hV1.cell (by first | assumption | (rw [block_of_add]; assumption))).trans (by assumption)⟩) (fun hHeld1 => ?_)
                    clear hK K
                    (try simp only [List.getElem_toArray]); (try simp only [List.getElem_cons_succ]); (try simp only [List.getElem_cons_zero]); (try simp only [Act.put]); (try simp only [List.setIfInBounds_toArray]); (try simp only [List.set_cons_succ]); (try simp only [List.set_cons_zero])
                    refine wpAnyH_take (i := 14) (v := ?_) rfl (by kernel_rfl) (by kernel_rfl) (by kernel_rfl) (fun _ _ _ h => h) (Or.inl ⟨by rfl, ?_⟩) (by assumption) ?_
                    rotate_left
                    · (intro w' hSw; go_simp; try with_reducible rfl)
                    (try simp only [List.getElem_toArray]); (try simp only [List.getElem_cons_succ]); (try simp only [List.getElem_cons_zero]); (try simp only [Act.put]); (try simp only [List.setIfInBounds_toArray]); (try simp only [List.set_cons_succ]); (try simp only [List.set_cons_zero])
                    refine wpAnyH_take (i := 15) (v := ?_) rfl (by kernel_rfl) (by kernel_rfl) (by kernel_rfl) (fun _ _ _ h => h) (Or.inl ⟨by rfl, ?_⟩) (by assumption) ?_
                    rotate_left
                    · (intro w' hSw; go_simp; try with_reducible rfl)
                    (try simp only [List.getElem_toArray]); (try simp only [List.getElem_cons_succ]); (try simp only [List.getElem_cons_zero]); (try simp only [Act.put]); (try simp only [List.setIfInBounds_toArray]); (try simp only [List.set_cons_succ]); (try simp only [List.set_cons_zero])
                    refine wpAnyH_done (by kernel_rfl) ?_ _
                    have hU1 := hV1
                    have I2 := I.up hU1
                    have hci := I2.m.nat (j := i) (by rw [I2.len]; exact hin)
                    have hck := I2.m.nat (j := k) (by rw [I2.len]; exact hkn)
                    rw [← HXi.out] at hci
                    rw [← HXk.out] at hck
                    have hfz := I2.m.frozen i
                    have hput := I2.put hgBX hAx hgX i (max xi (xk + 8))
                    have HV := Lib.hid (show x.set i (max xi (xk + 8)) = stK J x0 i (k + 1) by rw [stK, ← hx.out, ← HXi.out]; congr 2; rw [slst, if_pos hki, HJf.out, HXk.out]; rfl)
                    rw [HV.out] at hput
                    have HMZ := Lib.hid (max_z (a := xi) (l := xk + 8) (z := (xk : Int) + 7 + 1) (.inl (by omega)))
                    have HMN := Lib.hid (max_n xi (xk + 8))
                    clear I hy hcB1 hcB2
                    go_wp2
                    go_roundw
                    case rel => exact ⟨k + 1, _, by omega, by go_num, rfl, by first | exact hput | (rw [Nat.max_zero] at hput; exact hput) | (rw [HMZ.out]; exact hput) | (rw [HMN.out]; exact hput) | (rw [imax_n]; exact hput) | (rw [imax_if]; rw [HMZ.out]; exact hput) | (rw [← HMZ.out] at hput; simpa using hput)⟩
                    case measure => simp [intOf]; omega
                  · go_wp2_with fail
                    have hV0 : Up wo wo.drew := (Up.refl _).drew
                    refine wp_region_held_drew (S := (fun w' => Up wo w' ∧ (∀ b o, b < wo.heap.size → w'.cell? ⟨b, o, none⟩ = wo.cell? ⟨b, o, none⟩) ∧ w'.cell? (⟨gB, k, none⟩) = some (.int .i64 (vk : Nat)) ∧ w'.cell? (⟨gB, i, none⟩) = some (.int .i64 (vi : Nat)))) (by kernel_rfl) (by exact ⟨hV0, fun _ _ hb => hV0.cell hb, (hV0.cell (by first | assumption | (rw [block_of_add]; assumption))).trans (by assumption), (hV0.cell (by first | assumption | (rw [block_of_add]; assumption))).trans (by assumption)⟩) (fun hHeld => ?_)
                    refine wpAnyH_take (i := 0) (v := ?_) rfl (by kernel_rfl) (by kernel_rfl) (by kernel_rfl) (fun _ _ _ h => h) (Or.inl ⟨by rfl, ?_⟩) (by assumption) ?_
                    rotate_left
                    · (intro w' hSw; go_simp; try with_reducible rfl)
                    (try simp only [List.getElem_toArray]); (try simp only [List.getElem_cons_succ]); (try simp only [List.getElem_cons_zero]); (try simp only [Act.put]); (try simp only [List.setIfInBounds_toArray]); (try simp only [List.set_cons_succ]); (try simp only [List.set_cons_zero])
                    refine wpAnyH_take (i := 1) (v := ?_) rfl (by kernel_rfl) (by kernel_rfl) (by kernel_rfl) (fun _ _ _ h => h) (Or.inl ⟨by rfl, ?_⟩) (by assumption) ?_
                    rotate_left
                    · (intro w' hSw; go_simp; try with_reducible rfl)
                    (try simp only [List.getElem_toArray]); (try simp only [List.getElem_cons_succ]); (try simp only [List.getElem_cons_zero]); (try simp only [Act.put]); (try simp only [List.setIfInBounds_toArray]); (try simp only [List.set_cons_succ]); (try simp only [List.set_cons_zero])
                    refine wpAnyH_take (i := 2) (v := ?_) rfl (by kernel_rfl) (by kernel_rfl) (by kernel_rfl) (fun _ _ _ h => h) (Or.inl ⟨by rfl, ?_⟩) (by assumption) ?_
                    rotate_left
                    · (intro w' hSw; go_simp; try with_reducible rfl)
                    (try simp only [List.getElem_toArray]); (try simp only [List.getElem_cons_succ]); (try simp only [List.getElem_cons_zero]); (try simp only [Act.put]); (try simp only [List.setIfInBounds_toArray]); (try simp only [List.set_cons_succ]); (try simp only [List.set_cons_zero])
                    refine wpAnyH_take (i := 3) (v := ?_) rfl (by kernel_rfl) (by kernel_rfl) (by kernel_rfl) (fun _ _ _ h => h) (Or.inl ⟨by rfl, ?_⟩) (by assumption) ?_
                    rotate_left
                    · (intro w' hSw; go_simp; try with_reducible rfl)
                    (try simp only [List.getElem_toArray]); (try simp only [List.getElem_cons_succ]); (try simp only [List.getElem_cons_zero]); (try simp only [Act.put]); (try simp only [List.setIfInBounds_toArray]); (try simp only [List.set_cons_succ]); (try simp only [List.set_cons_zero])
                    refine wpAnyH_take (i := 4) (v := ?_) rfl (by kernel_rfl) (by kernel_rfl) (by kernel_rfl) (fun _ _ _ h => h) (Or.inl ⟨by rfl, ?_⟩) (by assumption) ?_
                    rotate_left
                    · (intro w' hSw; go_simp; try with_reducible rfl)
                    (try simp only [List.getElem_toArray]); (try simp only [List.getElem_cons_succ]); (try simp only [List.getElem_cons_zero]); (try simp only [Act.put]); (try simp only [List.setIfInBounds_toArray]); (try simp only [List.set_cons_succ]); (try simp only [List.set_cons_zero])
                    refine wpAnyH_take (i := 5) (v := ?_) rfl (by kernel_rfl) (by kernel_rfl) (by kernel_rfl) (fun _ _ _ h => h) (Or.inl ⟨by rfl, ?_⟩) (by assumption) ?_
                    rotate_left
                    · (intro w' hSw; go_simp; try with_reducible rfl)
                    (try simp only [List.getElem_toArray]); (try simp only [List.getElem_cons_succ]); (try simp only [List.getElem_cons_zero]); (try simp only [Act.put]); (try simp only [List.setIfInBounds_toArray]); (try simp only [List.set_cons_succ]); (try simp only [List.set_cons_zero])
                    refine wpAnyH_take (i := 6) (v := ?_) rfl (by kernel_rfl) (by kernel_rfl) (by kernel_rfl) (fun _ _ _ h => h) (Or.inl ⟨by rfl, ?_⟩) (by assumption) ?_
                    rotate_left
                    · (intro w' hSw; go_simp; try with_reducible rfl)
                    (try simp only [List.getElem_toArray]); (try simp only [List.getElem_cons_succ]); (try simp only [List.getElem_cons_zero]); (try simp only [Act.put]); (try simp only [List.setIfInBounds_toArray]); (try simp only [List.set_cons_succ]); (try simp only [List.set_cons_zero])
                    refine wpAnyH_take (i := 7) (v := ?_) rfl (by kernel_rfl) (by kernel_rfl) (by kernel_rfl) (fun _ _ _ h => h) (Or.inl ⟨by rfl, ?_⟩) (by assumption) ?_
                    rotate_left
                    · (intro w' hSw; go_simp; try with_reducible rfl)
                    (try simp only [List.getElem_toArray]); (try simp only [List.getElem_cons_succ]); (try simp only [List.getElem_cons_zero]); (try simp only [Act.put]); (try simp only [List.setIfInBounds_toArray]); (try simp only [List.set_cons_succ]); (try simp only [List.set_cons_zero])
                    refine wpAnyH_take (i := 8) (v := ?_) rfl (by kernel_rfl) (by kernel_rfl) (by kernel_rfl) (fun _ _ _ h => h) (Or.inl ⟨by rfl, ?_⟩) (by assumption) ?_
                    rotate_left
                    · (intro w' hSw; go_simp; try with_reducible rfl)
                    (try simp only [List.getElem_toArray]); (try simp only [List.getElem_cons_succ]); (try simp only [List.getElem_cons_zero]); (try simp only [Act.put]); (try simp only [List.setIfInBounds_toArray]); (try simp only [List.set_cons_succ]); (try simp only [List.set_cons_zero])
                    refine wpAnyH_take (i := 9) (v := ?_) rfl (by kernel_rfl) (by kernel_rfl) (by kernel_rfl) (fun _ _ _ h => h) (Or.inl ⟨by rfl, ?_⟩) (by assumption) ?_
                    rotate_left
                    · (intro w' hSw; go_simp; try with_reducible rfl)
                    (try simp only [List.getElem_toArray]); (try simp only [List.getElem_cons_succ]); (try simp only [List.getElem_cons_zero]); (try simp only [Act.put]); (try simp only [List.setIfInBounds_toArray]); (try simp only [List.set_cons_succ]); (try simp only [List.set_cons_zero])
                    refine wpAnyH_take (i := 10) (v := ?_) rfl (by kernel_rfl) (by kernel_rfl) (by kernel_rfl) (fun _ _ _ h => h) (Or.inl ⟨by rfl, ?_⟩) (by assumption) ?_
                    rotate_left
                    · (intro w' hSw; go_simp; try with_reducible rfl)
                    (try simp only [List.getElem_toArray]); (try simp only [List.getElem_cons_succ]); (try simp only [List.getElem_cons_zero]); (try simp only [Act.put]); (try simp only [List.setIfInBounds_toArray]); (try simp only [List.set_cons_succ]); (try simp only [List.set_cons_zero])
                    refine wpAnyH_take (i := 11) (v := ?_) rfl (by kernel_rfl) (by kernel_rfl) (by kernel_rfl) (fun _ _ _ h => h) (Or.inl ⟨by rfl, ?_⟩) (by assumption) ?_
                    rotate_left
                    · (intro w' hSw; go_simp; try with_reducible rfl)
                    (try simp only [List.getElem_toArray]); (try simp only [List.getElem_cons_succ]); (try simp only [List.getElem_cons_zero]); (try simp only [Act.put]); (try simp only [List.setIfInBounds_toArray]); (try simp only [List.set_cons_succ]); (try simp only [List.set_cons_zero])
                    refine wpAnyH_take (i := 12) (v := ?_) rfl (by kernel_rfl) (by kernel_rfl) (by kernel_rfl) (fun _ _ _ h => h) (Or.inl ⟨by rfl, ?_⟩) (by assumption) ?_
                    rotate_left
                    · (intro w' hSw; go_simp; try with_reducible rfl)
                    (try simp only [List.getElem_toArray]); (try simp only [List.getElem_cons_succ]); (try simp only [List.getElem_cons_zero]); (try simp only [Act.put]); (try simp only [List.setIfInBounds_toArray]); (try simp only [List.set_cons_succ]); (try simp only [List.set_cons_zero])
                    refine wpAnyH_ready (rs := [13]) (by kernel_rfl) (by simp) ?_
                    refine AllReadyH.cons rfl (fun K hK => ?_) AllReadyH.nil
                    go_simp
                    go_at_call 69
                    refine (l2Edge_is (N := (n : Int)) (c := c) (I.row.up hV0) HG.out hvk hvi HF.out).mono ?_
                    rintro e w10 ⟨rfl, hb10⟩
                    have hV1 := Up.then_ hV0 hb10
                    go_wp2_with fail
                    refine hK.out _ _ (by exact ⟨hV1, fun _ _ hb => hV1.cell hb, (hV1.cell (by first | assumption | (rw [block_of_add]; assumption))).trans (by assumption), (hV1.cell (by first | assumption | (rw [block_of_add]; assumption))).trans (by assumption)⟩) (fun hHeld1 => ?_)
                    clear hK K
                    (try simp only [List.getElem_toArray]); (try simp only [List.getElem_cons_succ]); (try simp only [List.getElem_cons_zero]); (try simp only [Act.put]); (try simp only [List.setIfInBounds_toArray]); (try simp only [List.set_cons_succ]); (try simp only [List.set_cons_zero])
                    refine wpAnyH_take (i := 14) (v := ?_) rfl (by kernel_rfl) (by kernel_rfl) (by kernel_rfl) (fun _ _ _ h => h) (Or.inl ⟨by rfl, ?_⟩) (by assumption) ?_
                    rotate_left
                    · (intro w' hSw; go_simp; try with_reducible rfl)
                    (try simp only [List.getElem_toArray]); (try simp only [List.getElem_cons_succ]); (try simp only [List.getElem_cons_zero]); (try simp only [Act.put]); (try simp only [List.setIfInBounds_toArray]); (try simp only [List.set_cons_succ]); (try simp only [List.set_cons_zero])
                    refine wpAnyH_take (i := 15) (v := ?_) rfl (by kernel_rfl) (by kernel_rfl) (by kernel_rfl) (fun _ _ _ h => h) (Or.inl ⟨by rfl, ?_⟩) (by assumption) ?_
                    rotate_left
                    · (intro w' hSw; go_simp; try with_reducible rfl)
                    (try simp only [List.getElem_toArray]); (try simp only [List.getElem_cons_succ]); (try simp only [List.getElem_cons_zero]); (try simp only [Act.put]); (try simp only [List.setIfInBounds_toArray]); (try simp only [List.set_cons_succ]); (try simp only [List.set_cons_zero])
                    refine wpAnyH_done (by kernel_rfl) ?_ _
                    have hU1 := hV1
                    have I2 := I.up hU1
                    have hci := I2.m.nat (j := i) (by rw [I2.len]; exact hin)
                    have hck := I2.m.nat (j := k) (by rw [I2.len]; exact hkn)
                    rw [← HXi.out] at hci
                    rw [← HXk.out] at hck
                    have hfz := I2.m.frozen i
                    have hput := I2.put hgBX hAx hgX i (max xi (xk))
                    have HV := Lib.hid (show x.set i (max xi (xk)) = stK J x0 i (k + 1) by rw [stK, ← hx.out, ← HXi.out]; congr 2; rw [slst, if_pos hki, HJf.out, HXk.out]; rfl)
                    rw [HV.out] at hput
                    have HMZ := Lib.hid (max_z (a := xi) (l := xk) (z := (xk : Int)) (.inl rfl))
                    have HMN := Lib.hid (max_n xi (xk))
                    clear I hy hcB1 hcB2
                    go_wp2
                    go_roundw
                    case rel => exact ⟨k + 1, _, by omega, by go_num, rfl, by first | exact hput | (rw [Nat.max_zero] at hput; exact hput) | (rw [HMZ.out]; exact hput) | (rw [HMN.out]; exact hput) | (rw [imax_n]; exact hput) | (rw [imax_if]; rw [HMZ.out]; exact hput) | (rw [← HMZ.out] at hput; simpa using hput)⟩
                    case measure => simp [intOf]; omega
                · by_cases hik : i < k
                  · obtain ⟨f, hf⟩ : ∃ f, f = J i k := ⟨_, rfl⟩
                    have HJf := Lib.hid hf.symm
                    have HF := Lib.hid (HJ2.out.symm.trans hf.symm)
                    clear hf
                    cases f
                    · go_wp2_with fail
                      have hV0 : Up wo wo.drew := (Up.refl _).drew
                      refine wp_region_held_drew (S := (fun w' => Up wo w' ∧ (∀ b o, b < wo.heap.size → w'.cell? ⟨b, o, none⟩ = wo.cell? ⟨b, o, none⟩))) (by kernel_rfl) (by exact ⟨hV0, fun _ _ hb => hV0.cell hb⟩) (fun hHeld => ?_)
                      refine wpAnyH_take (i := 0) (v := ?_) rfl (by kernel_rfl) (by kernel_rfl) (by kernel_rfl) (fun _ _ _ h => h) (Or.inl ⟨by rfl, ?_⟩) (by assumption) ?_
                      rotate_left
                      · (intro w' hSw; go_simp; try with_reducible rfl)
                      (try simp only [List.getElem_toArray]); (try simp only [List.getElem_cons_succ]); (try simp only [List.getElem_cons_zero]); (try simp only [Act.put]); (try simp only [List.setIfInBounds_toArray]); (try simp only [List.set_cons_succ]); (try simp only [List.set_cons_zero])
                      refine wpAnyH_take (i := 1) (v := ?_) rfl (by kernel_rfl) (by kernel_rfl) (by kernel_rfl) (fun _ _ _ h => h) (Or.inl ⟨by rfl, ?_⟩) (by assumption) ?_
                      rotate_left
                      · (intro w' hSw; go_simp; try with_reducible rfl)
                      (try simp only [List.getElem_toArray]); (try simp only [List.getElem_cons_succ]); (try simp only [List.getElem_cons_zero]); (try simp only [Act.put]); (try simp only [List.setIfInBounds_toArray]); (try simp only [List.set_cons_succ]); (try simp only [List.set_cons_zero])
                      refine wpAnyH_take (i := 2) (v := ?_) rfl (by kernel_rfl) (by kernel_rfl) (by kernel_rfl) (fun _ _ _ h => h) (Or.inl ⟨by rfl, ?_⟩) (by assumption) ?_
                      rotate_left
                      · (intro w' hSw; go_simp; try with_reducible rfl)
                      (try simp only [List.getElem_toArray]); (try simp only [List.getElem_cons_succ]); (try simp only [List.getElem_cons_zero]); (try simp only [Act.put]); (try simp only [List.setIfInBounds_toArray]); (try simp only [List.set_cons_succ]); (try simp only [List.set_cons_zero])
                      refine wpAnyH_take (i := 3) (v := ?_) rfl (by kernel_rfl) (by kernel_rfl) (by kernel_rfl) (fun _ _ _ h => h) (Or.inl ⟨by rfl, ?_⟩) (by assumption) ?_
                      rotate_left
                      · (intro w' hSw; go_simp; try with_reducible rfl)
                      (try simp only [List.getElem_toArray]); (try simp only [List.getElem_cons_succ]); (try simp only [List.getElem_cons_zero]); (try simp only [Act.put]); (try simp only [List.setIfInBounds_toArray]); (try simp only [List.set_cons_succ]); (try simp only [List.set_cons_zero])
                      refine wpAnyH_take (i := 4) (v := undef) rfl (by kernel_rfl) (by kernel_rfl) (by kernel_rfl) (fun _ _ _ h => h) (Or.inr ⟨by rfl, rfl⟩) (by assumption) ?_
                      (try simp only [List.getElem_toArray]); (try simp only [List.getElem_cons_succ]); (try simp only [List.getElem_cons_zero]); (try simp only [Act.put]); (try simp only [List.setIfInBounds_toArray]); (try simp only [List.set_cons_succ]); (try simp only [List.set_cons_zero])
                      refine wpAnyH_take (i := 5) (v := undef) rfl (by kernel_rfl) (by kernel_rfl) (by kernel_rfl) (fun _ _ _ h => h) (Or.inr ⟨by rfl, rfl⟩) (by assumption) ?_
                      (try simp only [List.getElem_toArray]); (try simp only [List.getElem_cons_succ]); (try simp only [List.getElem_cons_zero]); (try simp only [Act.put]); (try simp only [List.setIfInBounds_toArray]); (try simp only [List.set_cons_succ]); (try simp only [List.set_cons_zero])
                      refine wpAnyH_take (i := 6) (v := undef) rfl (by kernel_rfl) (by kernel_rfl) (by kernel_rfl) (fun _ _ _ h => h) (Or.inr ⟨by rfl, rfl⟩) (by assumption) ?_
                      (try simp only [List.getElem_toArray]); (try simp only [List.getElem_cons_succ]); (try simp only [List.getElem_cons_zero]); (try simp only [Act.put]); (try simp only [List.setIfInBounds_toArray]); (try simp only [List.set_cons_succ]); (try simp only [List.set_cons_zero])
                      refine wpAnyH_take (i := 7) (v := undef) rfl (by kernel_rfl) (by kernel_rfl) (by kernel_rfl) (fun _ _ _ h => h) (Or.inr ⟨by rfl, rfl⟩) (by assumption) ?_
                      (try simp only [List.getElem_toArray]); (try simp only [List.getElem_cons_succ]); (try simp only [List.getElem_cons_zero]); (try simp only [Act.put]); (try simp only [List.setIfInBounds_toArray]); (try simp only [List.set_cons_succ]); (try simp only [List.set_cons_zero])
                      refine wpAnyH_take (i := 8) (v := undef) rfl (by kernel_rfl) (by kernel_rfl) (by kernel_rfl) (fun _ _ _ h => h) (Or.inr ⟨by rfl, rfl⟩) (by assumption) ?_
                      (try simp only [List.getElem_toArray]); (try simp only [List.getElem_cons_succ]); (try simp only [List.getElem_cons_zero]); (try simp only [Act.put]); (try simp only [List.setIfInBounds_toArray]); (try simp only [List.set_cons_succ]); (try simp only [List.set_cons_zero])
                      refine wpAnyH_take (i := 9) (v := undef) rfl (by kernel_rfl) (by kernel_rfl) (by kernel_rfl) (fun _ _ _ h => h) (Or.inr ⟨by rfl, rfl⟩) (by assumption) ?_
                      (try simp only [List.getElem_toArray]); (try simp only [List.getElem_cons_succ]); (try simp only [List.getElem_cons_zero]); (try simp only [Act.put]); (try simp only [List.setIfInBounds_toArray]); (try simp only [List.set_cons_succ]); (try simp only [List.set_cons_zero])
                      refine wpAnyH_take (i := 10) (v := undef) rfl (by kernel_rfl) (by kernel_rfl) (by kernel_rfl) (fun _ _ _ h => h) (Or.inr ⟨by rfl, rfl⟩) (by assumption) ?_
                      (try simp only [List.getElem_toArray]); (try simp only [List.getElem_cons_succ]); (try simp only [List.getElem_cons_zero]); (try simp only [Act.put]); (try simp only [List.setIfInBounds_toArray]); (try simp only [List.set_cons_succ]); (try simp only [List.set_cons_zero])
                      refine wpAnyH_take (i := 11) (v := undef) rfl (by kernel_rfl) (by kernel_rfl) (by kernel_rfl) (fun _ _ _ h => h) (Or.inr ⟨by rfl, rfl⟩) (by assumption) ?_
                      (try simp only [List.getElem_toArray]); (try simp only [List.getElem_cons_succ]); (try simp only [List.getElem_cons_zero]); (try simp only [Act.put]); (try simp only [List.setIfInBounds_toArray]); (try simp only [List.set_cons_succ]); (try simp only [List.set_cons_zero])
                      refine wpAnyH_take (i := 12) (v := undef) rfl (by kernel_rfl) (by kernel_rfl) (by kernel_rfl) (fun _ _ _ h => h) (Or.inr ⟨by rfl, rfl⟩) (by assumption) ?_
                      (try simp only [List.getElem_toArray]); (try simp only [List.getElem_cons_succ]); (try simp only [List.getElem_cons_zero]); (try simp only [Act.put]); (try simp only [List.setIfInBounds_toArray]); (try simp only [List.set_cons_succ]); (try simp only [List.set_cons_zero])
                      refine wpAnyH_take (i := 13) (v := undef) rfl (by kernel_rfl) (by kernel_rfl) (by kernel_rfl) (fun _ _ _ h => h) (Or.inr ⟨by rfl, rfl⟩) (by assumption) ?_
                      (try simp only [List.getElem_toArray]); (try simp only [List.getElem_cons_succ]); (try simp only [List.getElem_cons_zero]); (try simp only [Act.put]); (try simp only [List.setIfInBounds_toArray]); (try simp only [List.set_cons_succ]); (try simp only [List.set_cons_zero])
                      refine wpAnyH_take (i := 14) (v := ?_) rfl (by kernel_rfl) (by kernel_rfl) (by kernel_rfl) (fun _ _ _ h => h) (Or.inl ⟨by rfl, ?_⟩) (by assumption) ?_
                      rotate_left
                      · (intro w' hSw; go_simp; try with_reducible rfl)
                      (try simp only [List.getElem_toArray]); (try simp only [List.getElem_cons_succ]); (try simp only [List.getElem_cons_zero]); (try simp only [Act.put]); (try simp only [List.setIfInBounds_toArray]); (try simp only [List.set_cons_succ]); (try simp only [List.set_cons_zero])
                      refine wpAnyH_take (i := 15) (v := ?_) rfl (by kernel_rfl) (by kernel_rfl) (by kernel_rfl) (fun _ _ _ h => h) (Or.inl ⟨by rfl, ?_⟩) (by assumption) ?_
                      rotate_left
                      · (intro w' hSw; go_simp; try with_reducible rfl)
                      (try simp only [List.getElem_toArray]); (try simp only [List.getElem_cons_succ]); (try simp only [List.getElem_cons_zero]); (try simp only [Act.put]); (try simp only [List.setIfInBounds_toArray]); (try simp only [List.set_cons_succ]); (try simp only [List.set_cons_zero])
                      refine wpAnyH_done (by kernel_rfl) ?_ _
                      have hU1 := hV0
                      go_wp2_with fail
                      have I3 := I.up (Up.refl wo).drew
                      have hcD1 : wo.drew.cell? ⟨gB, k, none⟩ = some (.int .i64 (vk : Nat)) := hcB1
                      have hcD2 : wo.drew.cell? ⟨gB, i, none⟩ = some (.int .i64 (vi : Nat)) := hcB2
                      obtain ⟨w3, hw3⟩ : ∃ w3, w3 = wo.drew := ⟨_, rfl⟩
                      rw [← hw3] at I3 hcD1 hcD2
                      have hgBl3 : gB < w3.heap.size := by rw [hw3]; exact hgBl
                      rw [← hw3]
                      clear hw3 I hy hlg hcB1 hcB2 hgBl hU1 hV0
                      have I := I3
                      have hcB1 := hcD1
                      have hcB2 := hcD2
                      have hy := I.g.two
                      have hlg := I.g.lt
                      clear hcD1 hcD2
                      have hV0 : Up w3 w3.drew := (Up.refl _).drew
                      refine wp_region_held_drew (S := (fun w' => Up w3 w' ∧ (∀ b o, b < w3.heap.size → w'.cell? ⟨b, o, none⟩ = w3.cell? ⟨b, o, none⟩) ∧ w'.cell? (⟨gB, k, none⟩) = some (.int .i64 (vk : Nat)) ∧ w'.cell? (⟨gB, i, none⟩) = some (.int .i64 (vi : Nat)))) (by kernel_rfl) (by exact ⟨hV0, fun _ _ hb => hV0.cell hb, (hV0.cell (by first | assumption | (rw [block_of_add]; assumption))).trans (by assumption), (hV0.cell (by first | assumption | (rw [block_of_add]; assumption))).trans (by assumption)⟩) (fun hHeld => ?_)
                      refine wpAnyH_take (i := 0) (v := ?_) rfl (by kernel_rfl) (by kernel_rfl) (by kernel_rfl) (fun _ _ _ h => h) (Or.inl ⟨by rfl, ?_⟩) (by assumption) ?_
                      rotate_left
                      · (intro w' hSw; go_simp; try with_reducible rfl)
                      (try simp only [List.getElem_toArray]); (try simp only [List.getElem_cons_succ]); (try simp only [List.getElem_cons_zero]); (try simp only [Act.put]); (try simp only [List.setIfInBounds_toArray]); (try simp only [List.set_cons_succ]); (try simp only [List.set_cons_zero])
                      refine wpAnyH_take (i := 1) (v := ?_) rfl (by kernel_rfl) (by kernel_rfl) (by kernel_rfl) (fun _ _ _ h => h) (Or.inl ⟨by rfl, ?_⟩) (by assumption) ?_
                      rotate_left
                      · (intro w' hSw; go_simp; try with_reducible rfl)
                      (try simp only [List.getElem_toArray]); (try simp only [List.getElem_cons_succ]); (try simp only [List.getElem_cons_zero]); (try simp only [Act.put]); (try simp only [List.setIfInBounds_toArray]); (try simp only [List.set_cons_succ]); (try simp only [List.set_cons_zero])
                      refine wpAnyH_take (i := 2) (v := ?_) rfl (by kernel_rfl) (by kernel_rfl) (by kernel_rfl) (fun _ _ _ h => h) (Or.inl ⟨by rfl, ?_⟩) (by assumption) ?_
                      rotate_left
                      · (intro w' hSw; go_simp; try with_reducible rfl)
                      (try simp only [List.getElem_toArray]); (try simp only [List.getElem_cons_succ]); (try simp only [List.getElem_cons_zero]); (try simp only [Act.put]); (try simp only [List.setIfInBounds_toArray]); (try simp only [List.set_cons_succ]); (try simp only [List.set_cons_zero])
                      refine wpAnyH_take (i := 3) (v := ?_) rfl (by kernel_rfl) (by kernel_rfl) (by kernel_rfl) (fun _ _ _ h => h) (Or.inl ⟨by rfl, ?_⟩) (by assumption) ?_
                      rotate_left
                      · (intro w' hSw; go_simp; try with_reducible rfl)
                      (try simp only [List.getElem_toArray]); (try simp only [List.getElem_cons_succ]); (try simp only [List.getElem_cons_zero]); (try simp only [Act.put]); (try simp only [List.setIfInBounds_toArray]); (try simp only [List.set_cons_succ]); (try simp only [List.set_cons_zero])
                      refine wpAnyH_take (i := 4) (v := ?_) rfl (by kernel_rfl) (by kernel_rfl) (by kernel_rfl) (fun _ _ _ h => h) (Or.inl ⟨by rfl, ?_⟩) (by assumption) ?_
                      rotate_left
                      · (intro w' hSw; go_simp; try with_reducible rfl)
                      (try simp only [List.getElem_toArray]); (try simp only [List.getElem_cons_succ]); (try simp only [List.getElem_cons_zero]); (try simp only [Act.put]); (try simp only [List.setIfInBounds_toArray]); (try simp only [List.set_cons_succ]); (try simp only [List.set_cons_zero])
                      refine wpAnyH_take (i := 5) (v := ?_) rfl (by kernel_rfl) (by kernel_rfl) (by kernel_rfl) (fun _ _ _ h => h) (Or.inl ⟨by rfl, ?_⟩) (by assumption) ?_
                      rotate_left
                      · (intro w' hSw; go_simp; try with_reducible rfl)
                      (try simp only [List.getElem_toArray]); (try simp only [List.getElem_cons_succ]); (try simp only [List.getElem_cons_zero]); (try simp only [Act.put]); (try simp only [List.setIfInBounds_toArray]); (try simp only [List.set_cons_succ]); (try simp only [List.set_cons_zero])
                      refine wpAnyH_take (i := 6) (v := ?_) rfl (by kernel_rfl) (by kernel_rfl) (by kernel_rfl) (fun _ _ _ h => h) (Or.inl ⟨by rfl, ?_⟩) (by assumption) ?_
                      rotate_left
                      · (intro w' hSw; go_simp; try with_reducible rfl)
                      (try simp only [List.getElem_toArray]); (try simp only [List.getElem_cons_succ]); (try simp only [List.getElem_cons_zero]); (try simp only [Act.put]); (try simp only [List.setIfInBounds_toArray]); (try simp only [List.set_cons_succ]); (try simp only [List.set_cons_zero])
                      refine wpAnyH_take (i := 7) (v := ?_) rfl (by kernel_rfl) (by kernel_rfl) (by kernel_rfl) (fun _ _ _ h => h) (Or.inl ⟨by rfl, ?_⟩) (by assumption) ?_
                      rotate_left
                      · (intro w' hSw; go_simp; try with_reducible rfl)
                      (try simp only [List.getElem_toArray]); (try simp only [List.getElem_cons_succ]); (try simp only [List.getElem_cons_zero]); (try simp only [Act.put]); (try simp only [List.setIfInBounds_toArray]); (try simp only [List.set_cons_succ]); (try simp only [List.set_cons_zero])
                      refine wpAnyH_take (i := 8) (v := ?_) rfl (by kernel_rfl) (by kernel_rfl) (by kernel_rfl) (fun _ _ _ h => h) (Or.inl ⟨by rfl, ?_⟩) (by assumption) ?_
                      rotate_left
                      · (intro w' hSw; go_simp; try with_reducible rfl)
                      (try simp only [List.getElem_toArray]); (try simp only [List.getElem_cons_succ]); (try simp only [List.getElem_cons_zero]); (try simp only [Act.put]); (try simp only [List.setIfInBounds_toArray]); (try simp only [List.set_cons_succ]); (try simp only [List.set_cons_zero])
                      refine wpAnyH_take (i := 9) (v := ?_) rfl (by kernel_rfl) (by kernel_rfl) (by kernel_rfl) (fun _ _ _ h => h) (Or.inl ⟨by rfl, ?_⟩) (by assumption) ?_
                      rotate_left
                      · (intro w' hSw; go_simp; try with_reducible rfl)
                      (try simp only [List.getElem_toArray]); (try simp only [List.getElem_cons_succ]); (try simp only [List.getElem_cons_zero]); (try simp only [Act.put]); (try simp only [List.setIfInBounds_toArray]); (try simp only [List.set_cons_succ]); (try simp only [List.set_cons_zero])
                      refine wpAnyH_take (i := 10) (v := ?_) rfl (by kernel_rfl) (by kernel_rfl) (by kernel_rfl) (fun _ _ _ h => h) (Or.inl ⟨by rfl, ?_⟩) (by assumption) ?_
                      rotate_left
                      · (intro w' hSw; go_simp; try with_reducible rfl)
                      (try simp only [List.getElem_toArray]); (try simp only [List.getElem_cons_succ]); (try simp only [List.getElem_cons_zero]); (try simp only [Act.put]); (try simp only [List.setIfInBounds_toArray]); (try simp only [List.set_cons_succ]); (try simp only [List.set_cons_zero])
                      refine wpAnyH_take (i := 11) (v := ?_) rfl (by kernel_rfl) (by kernel_rfl) (by kernel_rfl) (fun _ _ _ h => h) (Or.inl ⟨by rfl, ?_⟩) (by assumption) ?_
                      rotate_left
                      · (intro w' hSw; go_simp; try with_reducible rfl)
                      (try simp only [List.getElem_toArray]); (try simp only [List.getElem_cons_succ]); (try simp only [List.getElem_cons_zero]); (try simp only [Act.put]); (try simp only [List.setIfInBounds_toArray]); (try simp only [List.set_cons_succ]); (try simp only [List.set_cons_zero])
                      refine wpAnyH_take (i := 12) (v := ?_) rfl (by kernel_rfl) (by kernel_rfl) (by kernel_rfl) (fun _ _ _ h => h) (Or.inl ⟨by rfl, ?_⟩) (by assumption) ?_
                      rotate_left
                      · (intro w' hSw; go_simp; try with_reducible rfl)
                      (try simp only [List.getElem_toArray]); (try simp only [List.getElem_cons_succ]); (try simp only [List.getElem_cons_zero]); (try simp only [Act.put]); (try simp only [List.setIfInBounds_toArray]); (try simp only [List.set_cons_succ]); (try simp only [List.set_cons_zero])
                      refine wpAnyH_ready (rs := [13]) (by kernel_rfl) (by simp) ?_
                      refine AllReadyH.cons rfl (fun K hK => ?_) AllReadyH.nil
                      go_simp
                      go_at_call 69
                      refine (l2Edge_is (N := (n : Int)) (c := c) (I.row.up hV0) HG.out hvi hvk HF.out).mono ?_
                      rintro e w20 ⟨rfl, hb20⟩
                      have hV1 := Up.then_ hV0 hb20
                      go_wp2_with fail
                      refine hK.out _ _ (by exact ⟨hV1, fun _ _ hb => hV1.cell hb, (hV1.cell (by first | assumption | (rw [block_of_add]; assumption))).trans (by assumption), (hV1.cell (by first | assumption | (rw [block_of_add]; assumption))).trans (by assumption)⟩) (fun hHeld1 => ?_)
                      clear hK K
                      (try simp only [List.getElem_toArray]); (try simp only [List.getElem_cons_succ]); (try simp only [List.getElem_cons_zero]); (try simp only [Act.put]); (try simp only [List.setIfInBounds_toArray]); (try simp only [List.set_cons_succ]); (try simp only [List.set_cons_zero])
                      refine wpAnyH_take (i := 14) (v := ?_) rfl (by kernel_rfl) (by kernel_rfl) (by kernel_rfl) (fun _ _ _ h => h) (Or.inl ⟨by rfl, ?_⟩) (by assumption) ?_
                      rotate_left
                      · (intro w' hSw; go_simp; try with_reducible rfl)
                      (try simp only [List.getElem_toArray]); (try simp only [List.getElem_cons_succ]); (try simp only [List.getElem_cons_zero]); (try simp only [Act.put]); (try simp only [List.setIfInBounds_toArray]); (try simp only [List.set_cons_succ]); (try simp only [List.set_cons_zero])
                      refine wpAnyH_take (i := 15) (v := ?_) rfl (by kernel_rfl) (by kernel_rfl) (by kernel_rfl) (fun _ _ _ h => h) (Or.inl ⟨by rfl, ?_⟩) (by assumption) ?_
                      rotate_left
                      · (intro w' hSw; go_simp; try with_reducible rfl)
                      (try simp only [List.getElem_toArray]); (try simp only [List.getElem_cons_succ]); (try simp only [List.getElem_cons_zero]); (try simp only [Act.put]); (try simp only [List.setIfInBounds_toArray]); (try simp only [List.set_cons_succ]); (try simp only [List.set_cons_zero])
                      refine wpAnyH_done (by kernel_rfl) ?_ _
                      have hU2 := hV1
                      have I2 := I.up hU2
                      have hci := I2.m.nat (j := i) (by rw [I2.len]; exact hin)
                      have hck := I2.m.nat (j := k) (by rw [I2.len]; exact hkn)
                      rw [← HXi.out] at hci
                      rw [← HXk.out] at hck
                      have hfz := I2.m.frozen i
                      have hput := I2.put hgBX hAx hgX i (max xi (0))
                      have HV := Lib.hid (show x.set i (max xi (0)) = stK J x0 i (k + 1) by rw [stK, ← hx.out, ← HXi.out]; congr 2; rw [slst, if_neg hki, if_neg fun e => by rw [HJf.out] at e; exact Bool.false_ne_true e.2])
                      rw [HV.out] at hput
                      have HMZ := Lib.hid (max_z (a := xi) (l := 0) (z := 0) (.inl rfl))
                      have HMN := Lib.hid (max_n xi (0))
                      clear I hy hcB1 hcB2
                      go_wp2
                      go_roundw
                      case rel => exact ⟨k + 1, _, by omega, by go_num, rfl, by first | exact hput | (rw [Nat.max_zero] at hput; exact hput) | (rw [HMZ.out]; exact hput) | (rw [HMN.out]; exact hput) | (rw [imax_n]; exact hput) | (rw [imax_if]; rw [HMZ.out]; exact hput) | (rw [← HMZ.out] at hput; simpa using hput)⟩
                      case measure => simp [intOf]; omega
                    · go_wp2_with fail
                      have hV0 : Up wo wo.drew := (Up.refl _).drew
                      refine wp_region_held_drew (S := (fun w' => Up wo w' ∧ (∀ b o, b < wo.heap.size → w'.cell? ⟨b, o, none⟩ = wo.cell? ⟨b, o, none⟩))) (by kernel_rfl) (by exact ⟨hV0, fun _ _ hb => hV0.cell hb⟩) (fun hHeld => ?_)
                      refine wpAnyH_take (i := 0) (v := ?_) rfl (by kernel_rfl) (by kernel_rfl) (by kernel_rfl) (fun _ _ _ h => h) (Or.inl ⟨by rfl, ?_⟩) (by assumption) ?_
                      rotate_left
                      · (intro w' hSw; go_simp; try with_reducible rfl)
                      (try simp only [List.getElem_toArray]); (try simp only [List.getElem_cons_succ]); (try simp only [List.getElem_cons_zero]); (try simp only [Act.put]); (try simp only [List.setIfInBounds_toArray]); (try simp only [List.set_cons_succ]); (try simp only [List.set_cons_zero])
                      refine wpAnyH_take (i := 1) (v := ?_) rfl (by kernel_rfl) (by kernel_rfl) (by kernel_rfl) (fun _ _ _ h => h) (Or.inl ⟨by rfl, ?_⟩) (by assumption) ?_
                      rotate_left
                      · (intro w' hSw; go_simp; try with_reducible rfl)
                      (try simp only [List.getElem_toArray]); (try simp only [List.getElem_cons_succ]); (try simp only [List.getElem_cons_zero]); (try simp only [Act.put]); (try simp only [List.setIfInBounds_toArray]); (try simp only [List.set_cons_succ]); (try simp only [List.set_cons_zero])
                      refine wpAnyH_take (i := 2) (v := ?_) rfl (by kernel_rfl) (by kernel_rfl) (by kernel_rfl) (fun _ _ _ h => h) (Or.inl ⟨by rfl, ?_⟩) (by assumption) ?_
                      rotate_left
                      · (intro w' hSw; go_simp; try with_reducible rfl)
                      (try simp only [List.getElem_toArray]); (try simp only [List.getElem_cons_succ]); (try simp only [List.getElem_cons_zero]); (try simp only [Act.put]); (try simp only [List.setIfInBounds_toArray]); (try simp only [List.set_cons_succ]); (try simp only [List.set_cons_zero])
                      refine wpAnyH_take (i := 3) (v := ?_) rfl (by kernel_rfl) (by kernel_rfl) (by kernel_rfl) (fun _ _ _ h => h) (Or.inl ⟨by rfl, ?_⟩) (by assumption) ?_
                      rotate_left
                      · (intro w' hSw; go_simp; try with_reducible rfl)
                      (try simp only [List.getElem_toArray]); (try simp only [List.getElem_cons_succ]); (try simp only [List.getElem_cons_zero]); (try simp only [Act.put]); (try simp only [List.setIfInBounds_toArray]); (try simp only [List.set_cons_succ]); (try simp only [List.set_cons_zero])
                      refine wpAnyH_take (i := 4) (v := undef) rfl (by kernel_rfl) (by kernel_rfl) (by kernel_rfl) (fun _ _ _ h => h) (Or.inr ⟨by rfl, rfl⟩) (by assumption) ?_
                      (try simp only [List.getElem_toArray]); (try simp only [List.getElem_cons_succ]); (try simp only [List.getElem_cons_zero]); (try simp only [Act.put]); (try simp only [List.setIfInBounds_toArray]); (try simp only [List.set_cons_succ]); (try simp only [List.set_cons_zero])
                      refine wpAnyH_take (i := 5) (v := undef) rfl (by kernel_rfl) (by kernel_rfl) (by kernel_rfl) (fun _ _ _ h => h) (Or.inr ⟨by rfl, rfl⟩) (by assumption) ?_
                      (try simp only [List.getElem_toArray]); (try simp only [List.getElem_cons_succ]); (try simp only [List.getElem_cons_zero]); (try simp only [Act.put]); (try simp only [List.setIfInBounds_toArray]); (try simp only [List.set_cons_succ]); (try simp only [List.set_cons_zero])
                      refine wpAnyH_take (i := 6) (v := undef) rfl (by kernel_rfl) (by kernel_rfl) (by kernel_rfl) (fun _ _ _ h => h) (Or.inr ⟨by rfl, rfl⟩) (by assumption) ?_
                      (try simp only [List.getElem_toArray]); (try simp only [List.getElem_cons_succ]); (try simp only [List.getElem_cons_zero]); (try simp only [Act.put]); (try simp only [List.setIfInBounds_toArray]); (try simp only [List.set_cons_succ]); (try simp only [List.set_cons_zero])
                      refine wpAnyH_take (i := 7) (v := undef) rfl (by kernel_rfl) (by kernel_rfl) (by kernel_rfl) (fun _ _ _ h => h) (Or.inr ⟨by rfl, rfl⟩) (by assumption) ?_
                      (try simp only [List.getElem_toArray]); (try simp only [List.getElem_cons_succ]); (try simp only [List.getElem_cons_zero]); (try simp only [Act.put]); (try simp only [List.setIfInBounds_toArray]); (try simp only [List.set_cons_succ]); (try simp only [List.set_cons_zero])
                      refine wpAnyH_take (i := 8) (v := undef) rfl (by kernel_rfl) (by kernel_rfl) (by kernel_rfl) (fun _ _ _ h => h) (Or.inr ⟨by rfl, rfl⟩) (by assumption) ?_
                      (try simp only [List.getElem_toArray]); (try simp only [List.getElem_cons_succ]); (try simp only [List.getElem_cons_zero]); (try simp only [Act.put]); (try simp only [List.setIfInBounds_toArray]); (try simp only [List.set_cons_succ]); (try simp only [List.set_cons_zero])
                      refine wpAnyH_take (i := 9) (v := undef) rfl (by kernel_rfl) (by kernel_rfl) (by kernel_rfl) (fun _ _ _ h => h) (Or.inr ⟨by rfl, rfl⟩) (by assumption) ?_
                      (try simp only [List.getElem_toArray]); (try simp only [List.getElem_cons_succ]); (try simp only [List.getElem_cons_zero]); (try simp only [Act.put]); (try simp only [List.setIfInBounds_toArray]); (try simp only [List.set_cons_succ]); (try simp only [List.set_cons_zero])
                      refine wpAnyH_take (i := 10) (v := undef) rfl (by kernel_rfl) (by kernel_rfl) (by kernel_rfl) (fun _ _ _ h => h) (Or.inr ⟨by rfl, rfl⟩) (by assumption) ?_
                      (try simp only [List.getElem_toArray]); (try simp only [List.getElem_cons_succ]); (try simp only [List.getElem_cons_zero]); (try simp only [Act.put]); (try simp only [List.setIfInBounds_toArray]); (try simp only [List.set_cons_succ]); (try simp only [List.set_cons_zero])
                      refine wpAnyH_take (i := 11) (v := undef) rfl (by kernel_rfl) (by kernel_rfl) (by kernel_rfl) (fun _ _ _ h => h) (Or.inr ⟨by rfl, rfl⟩) (by assumption) ?_
                      (try simp only [List.getElem_toArray]); (try simp only [List.getElem_cons_succ]); (try simp only [List.getElem_cons_zero]); (try simp only [Act.put]); (try simp only [List.setIfInBounds_toArray]); (try simp only [List.set_cons_succ]); (try simp only [List.set_cons_zero])
                      refine wpAnyH_take (i := 12) (v := undef) rfl (by kernel_rfl) (by kernel_rfl) (by kernel_rfl) (fun _ _ _ h => h) (Or.inr ⟨by rfl, rfl⟩) (by assumption) ?_
                      (try simp only [List.getElem_toArray]); (try simp only [List.getElem_cons_succ]); (try simp only [List.getElem_cons_zero]); (try simp only [Act.put]); (try simp only [List.setIfInBounds_toArray]); (try simp only [List.set_cons_succ]); (try simp only [List.set_cons_zero])
                      refine wpAnyH_take (i := 13) (v := undef) rfl (by kernel_rfl) (by kernel_rfl) (by kernel_rfl) (fun _ _ _ h => h) (Or.inr ⟨by rfl, rfl⟩) (by assumption) ?_
                      (try simp only [List.getElem_toArray]); (try simp only [List.getElem_cons_succ]); (try simp only [List.getElem_cons_zero]); (try simp only [Act.put]); (try simp only [List.setIfInBounds_toArray]); (try simp only [List.set_cons_succ]); (try simp only [List.set_cons_zero])
                      refine wpAnyH_take (i := 14) (v := ?_) rfl (by kernel_rfl) (by kernel_rfl) (by kernel_rfl) (fun _ _ _ h => h) (Or.inl ⟨by rfl, ?_⟩) (by assumption) ?_
                      rotate_left
                      · (intro w' hSw; go_simp; try with_reducible rfl)
                      (try simp only [List.getElem_toArray]); (try simp only [List.getElem_cons_succ]); (try simp only [List.getElem_cons_zero]); (try simp only [Act.put]); (try simp only [List.setIfInBounds_toArray]); (try simp only [List.set_cons_succ]); (try simp only [List.set_cons_zero])
                      refine wpAnyH_take (i := 15) (v := ?_) rfl (by kernel_rfl) (by kernel_rfl) (by kernel_rfl) (fun _ _ _ h => h) (Or.inl ⟨by rfl, ?_⟩) (by assumption) ?_
                      rotate_left
                      · (intro w' hSw; go_simp; try with_reducible rfl)
                      (try simp only [List.getElem_toArray]); (try simp only [List.getElem_cons_succ]); (try simp only [List.getElem_cons_zero]); (try simp only [Act.put]); (try simp only [List.setIfInBounds_toArray]); (try simp only [List.set_cons_succ]); (try simp only [List.set_cons_zero])
                      refine wpAnyH_done (by kernel_rfl) ?_ _
                      have hU1 := hV0
                      go_wp2_with fail
                      have I3 := I.up (Up.refl wo).drew
                      have hcD1 : wo.drew.cell? ⟨gB, k, none⟩ = some (.int .i64 (vk : Nat)) := hcB1
                      have hcD2 : wo.drew.cell? ⟨gB, i, none⟩ = some (.int .i64 (vi : Nat)) := hcB2
                      obtain ⟨w3, hw3⟩ : ∃ w3, w3 = wo.drew := ⟨_, rfl⟩
                      rw [← hw3] at I3 hcD1 hcD2
                      have hgBl3 : gB < w3.heap.size := by rw [hw3]; exact hgBl
                      rw [← hw3]
                      clear hw3 I hy hlg hcB1 hcB2 hgBl hU1 hV0
                      have I := I3
                      have hcB1 := hcD1
                      have hcB2 := hcD2
                      have hy := I.g.two
                      have hlg := I.g.lt
                      clear hcD1 hcD2
                      have hV0 : Up w3 w3.drew := (Up.refl _).drew
                      refine wp_region_held_drew (S := (fun w' => Up w3 w' ∧ (∀ b o, b < w3.heap.size → w'.cell? ⟨b, o, none⟩ = w3.cell? ⟨b, o, none⟩) ∧ w'.cell? (⟨gB, k, none⟩) = some (.int .i64 (vk : Nat)) ∧ w'.cell? (⟨gB, i, none⟩) = some (.int .i64 (vi : Nat)))) (by kernel_rfl) (by exact ⟨hV0, fun _ _ hb => hV0.cell hb, (hV0.cell (by first | assumption | (rw [block_of_add]; assumption))).trans (by assumption), (hV0.cell (by first | assumption | (rw [block_of_add]; assumption))).trans (by assumption)⟩) (fun hHeld => ?_)
                      refine wpAnyH_take (i := 0) (v := ?_) rfl (by kernel_rfl) (by kernel_rfl) (by kernel_rfl) (fun _ _ _ h => h) (Or.inl ⟨by rfl, ?_⟩) (by assumption) ?_
                      rotate_left
                      · (intro w' hSw; go_simp; try with_reducible rfl)
                      (try simp only [List.getElem_toArray]); (try simp only [List.getElem_cons_succ]); (try simp only [List.getElem_cons_zero]); (try simp only [Act.put]); (try simp only [List.setIfInBounds_toArray]); (try simp only [List.set_cons_succ]); (try simp only [List.set_cons_zero])
                      refine wpAnyH_take (i := 1) (v := ?_) rfl (by kernel_rfl) (by kernel_rfl) (by kernel_rfl) (fun _ _ _ h => h) (Or.inl ⟨by rfl, ?_⟩) (by assumption) ?_
                      rotate_left
                      · (intro w' hSw; go_simp; try with_reducible rfl)
                      (try simp only [List.getElem_toArray]); (try simp only [List.getElem_cons_succ]); (try simp only [List.getElem_cons_zero]); (try simp only [Act.put]); (try simp only [List.setIfInBounds_toArray]); (try simp only [List.set_cons_succ]); (try simp only [List.set_cons_zero])
                      refine wpAnyH_take (i := 2) (v := ?_) rfl (by kernel_rfl) (by kernel_rfl) (by kernel_rfl) (fun _ _ _ h => h) (Or.inl ⟨by rfl, ?_⟩) (by assumption) ?_
                      rotate_left
                      · (intro w' hSw; go_simp; try with_reducible rfl)
                      (try simp only [List.getElem_toArray]); (try simp only [List.getElem_cons_succ]); (try simp only [List.getElem_cons_zero]); (try simp only [Act.put]); (try simp only [List.setIfInBounds_toArray]); (try simp only [List.set_cons_succ]); (try simp only [List.set_cons_zero])
                      refine wpAnyH_take (i := 3) (v := ?_) rfl (by kernel_rfl) (by kernel_rfl) (by kernel_rfl) (fun _ _ _ h => h) (Or.inl ⟨by rfl, ?_⟩) (by assumption) ?_
                      rotate_left
                      · (intro w' hSw; go_simp; try with_reducible rfl)
                      (try simp only [List.getElem_toArray]); (try simp only [List.getElem_cons_succ]); (try simp only [List.getElem_cons_zero]); (try simp only [Act.put]); (try simp only [List.setIfInBounds_toArray]); (try simp only [List.set_cons_succ]); (try simp only [List.set_cons_zero])
                      refine wpAnyH_take (i := 4) (v := ?_) rfl (by kernel_rfl) (by kernel_rfl) (by kernel_rfl) (fun _ _ _ h => h) (Or.inl ⟨by rfl, ?_⟩) (by assumption) ?_
                      rotate_left
                      · (intro w' hSw; go_simp; try with_reducible rfl)
                      (try simp only [List.getElem_toArray]); (try simp only [List.getElem_cons_succ]); (try simp only [List.getElem_cons_zero]); (try simp only [Act.put]); (try simp only [List.setIfInBounds_toArray]); (try simp only [List.set_cons_succ]); (try simp only [List.set_cons_zero])
                      refine wpAnyH_take (i := 5) (v := ?_) rfl (by kernel_rfl) (by kernel_rfl) (by kernel_rfl) (fun _ _ _ h => h) (Or.inl ⟨by rfl, ?_⟩) (by assumption) ?_
                      rotate_left
                      · (intro w' hSw; go_simp; try with_reducible rfl)
                      (try simp only [List.getElem_toArray]); (try simp only [List.getElem_cons_succ]); (try simp only [List.getElem_cons_zero]); (try simp only [Act.put]); (try simp only [List.setIfInBounds_toArray]); (try simp only [List.set_cons_succ]); (try simp only [List.set_cons_zero])
                      refine wpAnyH_take (i := 6) (v := ?_) rfl (by kernel_rfl) (by kernel_rfl) (by kernel_rfl) (fun _ _ _ h => h) (Or.inl ⟨by rfl, ?_⟩) (by assumption) ?_
                      rotate_left
                      · (intro w' hSw; go_simp; try with_reducible rfl)
                      (try simp only [List.getElem_toArray]); (try simp only [List.getElem_cons_succ]); (try simp only [List.getElem_cons_zero]); (try simp only [Act.put]); (try simp only [List.setIfInBounds_toArray]); (try simp only [List.set_cons_succ]); (try simp only [List.set_cons_zero])
                      refine wpAnyH_take (i := 7) (v := ?_) rfl (by kernel_rfl) (by kernel_rfl) (by kernel_rfl) (fun _ _ _ h => h) (Or.inl ⟨by rfl, ?_⟩) (by assumption) ?_
                      rotate_left
                      · (intro w' hSw; go_simp; try with_reducible rfl)
                      (try simp only [List.getElem_toArray]); (try simp only [List.getElem_cons_succ]); (try simp only [List.getElem_cons_zero]); (try simp only [Act.put]); (try simp only [List.setIfInBounds_toArray]); (try simp only [List.set_cons_succ]); (try simp only [List.set_cons_zero])
                      refine wpAnyH_take (i := 8) (v := ?_) rfl (by kernel_rfl) (by kernel_rfl) (by kernel_rfl) (fun _ _ _ h => h) (Or.inl ⟨by rfl, ?_⟩) (by assumption) ?_
                      rotate_left
                      · (intro w' hSw; go_simp; try with_reducible rfl)
                      (try simp only [List.getElem_toArray]); (try simp only [List.getElem_cons_succ]); (try simp only [List.getElem_cons_zero]); (try simp only [Act.put]); (try simp only [List.setIfInBounds_toArray]); (try simp only [List.set_cons_succ]); (try simp only [List.set_cons_zero])
                      refine wpAnyH_take (i := 9) (v := ?_) rfl (by kernel_rfl) (by kernel_rfl) (by kernel_rfl) (fun _ _ _ h => h) (Or.inl ⟨by rfl, ?_⟩) (by assumption) ?_
                      rotate_left
                      · (intro w' hSw; go_simp; try with_reducible rfl)
                      (try simp only [List.getElem_toArray]); (try simp only [List.getElem_cons_succ]); (try simp only [List.getElem_cons_zero]); (try simp only [Act.put]); (try simp only [List.setIfInBounds_toArray]); (try simp only [List.set_cons_succ]); (try simp only [List.set_cons_zero])
                      refine wpAnyH_take (i := 10) (v := ?_) rfl (by kernel_rfl) (by kernel_rfl) (by kernel_rfl) (fun _ _ _ h => h) (Or.inl ⟨by rfl, ?_⟩) (by assumption) ?_
                      rotate_left
                      · (intro w' hSw; go_simp; try with_reducible rfl)
                      (try simp only [List.getElem_toArray]); (try simp only [List.getElem_cons_succ]); (try simp only [List.getElem_cons_zero]); (try simp only [Act.put]); (try simp only [List.setIfInBounds_toArray]); (try simp only [List.set_cons_succ]); (try simp only [List.set_cons_zero])
                      refine wpAnyH_take (i := 11) (v := ?_) rfl (by kernel_rfl) (by kernel_rfl) (by kernel_rfl) (fun _ _ _ h => h) (Or.inl ⟨by rfl, ?_⟩) (by assumption) ?_
                      rotate_left
                      · (intro w' hSw; go_simp; try with_reducible rfl)
                      (try simp only [List.getElem_toArray]); (try simp only [List.getElem_cons_succ]); (try simp only [List.getElem_cons_zero]); (try simp only [Act.put]); (try simp only [List.setIfInBounds_toArray]); (try simp only [List.set_cons_succ]); (try simp only [List.set_cons_zero])
                      refine wpAnyH_take (i := 12) (v := ?_) rfl (by kernel_rfl) (by kernel_rfl) (by kernel_rfl) (fun _ _ _ h => h) (Or.inl ⟨by rfl, ?_⟩) (by assumption) ?_
                      rotate_left
                      · (intro w' hSw; go_simp; try with_reducible rfl)
                      (try simp only [List.getElem_toArray]); (try simp only [List.getElem_cons_succ]); (try simp only [List.getElem_cons_zero]); (try simp only [Act.put]); (try simp only [List.setIfInBounds_toArray]); (try simp only [List.set_cons_succ]); (try simp only [List.set_cons_zero])
                      refine wpAnyH_ready (rs := [13]) (by kernel_rfl) (by simp) ?_
                      refine AllReadyH.cons rfl (fun K hK => ?_) AllReadyH.nil
                      go_simp
                      go_at_call 69
                      refine (l2Edge_is (N := (n : Int)) (c := c) (I.row.up hV0) HG.out hvi hvk HF.out).mono ?_
                      rintro e w20 ⟨rfl, hb20⟩
                      have hV1 := Up.then_ hV0 hb20
                      go_wp2_with fail
                      refine hK.out _ _ (by exact ⟨hV1, fun _ _ hb => hV1.cell hb, (hV1.cell (by first | assumption | (rw [block_of_add]; assumption))).trans (by assumption), (hV1.cell (by first | assumption | (rw [block_of_add]; assumption))).trans (by assumption)⟩) (fun hHeld1 => ?_)
                      clear hK K
                      (try simp only [List.getElem_toArray]); (try simp only [List.getElem_cons_succ]); (try simp only [List.getElem_cons_zero]); (try simp only [Act.put]); (try simp only [List.setIfInBounds_toArray]); (try simp only [List.set_cons_succ]); (try simp only [List.set_cons_zero])
                      refine wpAnyH_take (i := 14) (v := ?_) rfl (by kernel_rfl) (by kernel_rfl) (by kernel_rfl) (fun _ _ _ h => h) (Or.inl ⟨by rfl, ?_⟩) (by assumption) ?_
                      rotate_left
                      · (intro w' hSw; go_simp; try with_reducible rfl)
                      (try simp only [List.getElem_toArray]); (try simp only [List.getElem_cons_succ]); (try simp only [List.getElem_cons_zero]); (try simp only [Act.put]); (try simp only [List.setIfInBounds_toArray]); (try simp only [List.set_cons_succ]); (try simp only [List.set_cons_zero])
                      refine wpAnyH_take (i := 15) (v := ?_) rfl (by kernel_rfl) (by kernel_rfl) (by kernel_rfl) (fun _ _ _ h => h) (Or.inl ⟨by rfl, ?_⟩) (by assumption) ?_
                      rotate_left
                      · (intro w' hSw; go_simp; try with_reducible rfl)
                      (try simp only [List.getElem_toArray]); (try simp only [List.getElem_cons_succ]); (try simp only [List.getElem_cons_zero]); (try simp only [Act.put]); (try simp only [List.setIfInBounds_toArray]); (try simp only [List.set_cons_succ]); (try simp only [List.set_cons_zero])
                      refine wpAnyH_done (by kernel_rfl) ?_ _
                      have hU2 := hV1
                      have I2 := I.up hU2
                      have hci := I2.m.nat (j := i) (by rw [I2.len]; exact hin)
                      have hck := I2.m.nat (j := k) (by rw [I2.len]; exact hkn)
                      rw [← HXi.out] at hci
                      rw [← HXk.out] at hck
                      have hfz := I2.m.frozen i
                      have hput := I2.put hgBX hAx hgX i (max xi (xk - 7))
                      have HV := Lib.hid (show x.set i (max xi (xk - 7)) = stK J x0 i (k + 1) by rw [stK, ← hx.out, ← HXi.out]; congr 2; rw [slst, if_neg hki, if_pos ⟨hik, HJf.out⟩, HXk.out])
                      rw [HV.out] at hput
                      have HMZ := Lib.hid (max_z (a := xi) (l := xk - 7) (z := (xk : Int) - 7) (by omega))
                      have HMN := Lib.hid (max_n xi (xk - 7))
                      clear I hy hcB1 hcB2
                      go_wp2
                      go_roundw
                      case rel => exact ⟨k + 1, _, by omega, by go_num, rfl, by first | exact hput | (rw [Nat.max_zero] at hput; exact hput) | (rw [HMZ.out]; exact hput) | (rw [HMN.out]; exact hput) | (rw [imax_n]; exact hput) | (rw [imax_if]; rw [HMZ.out]; exact hput) | (rw [← HMZ.out] at hput; simpa using hput)⟩
                      case measure => simp [intOf]; omega
                  · go_wp2_with fail
                    have hV0 : Up wo wo.drew := (Up.refl _).drew
                    refine wp_region_held_drew (S := (fun w' => Up wo w' ∧ (∀ b o, b < wo.heap.size → w'.cell? ⟨b, o, none⟩ = wo.cell? ⟨b, o, none⟩))) (by kernel_rfl) (by exact ⟨hV0, fun _ _ hb => hV0.cell hb⟩) (fun hHeld => ?_)
                    refine wpAnyH_take (i := 0) (v := ?_) rfl (by kernel_rfl) (by kernel_rfl) (by kernel_rfl) (fun _ _ _ h => h) (Or.inl ⟨by rfl, ?_⟩) (by assumption) ?_
                    rotate_left
                    · (intro w' hSw; go_simp; try with_reducible rfl)
                    (try simp only [List.getElem_toArray]); (try simp only [List.getElem_cons_succ]); (try simp only [List.getElem_cons_zero]); (try simp only [Act.put]); (try simp only [List.setIfInBounds_toArray]); (try simp only [List.set_cons_succ]); (try simp only [List.set_cons_zero])
                    refine wpAnyH_take (i := 1) (v := ?_) rfl (by kernel_rfl) (by kernel_rfl) (by kernel_rfl) (fun _ _ _ h => h) (Or.inl ⟨by rfl, ?_⟩) (by assumption) ?_
                    rotate_left
                    · (intro w' hSw; go_simp; try with_reducible rfl)
                    (try simp only [List.getElem_toArray]); (try simp only [List.getElem_cons_succ]); (try simp only [List.getElem_cons_zero]); (try simp only [Act.put]); (try simp only [List.setIfInBounds_toArray]); (try simp only [List.set_cons_succ]); (try simp only [List.set_cons_zero])
                    refine wpAnyH_take (i := 2) (v := ?_) rfl (by kernel_rfl) (by kernel_rfl) (by kernel_rfl) (fun _ _ _ h => h) (Or.inl ⟨by rfl, ?_⟩) (by assumption) ?_
                    rotate_left
                    · (intro w' hSw; go_simp; try with_reducible rfl)
                    (try simp only [List.getElem_toArray]); (try simp only [List.getElem_cons_succ]); (try simp only [List.getElem_cons_zero]); (try simp only [Act.put]); (try simp only [List.setIfInBounds_toArray]); (try simp only [List.set_cons_succ]); (try simp only [List.set_cons_zero])
                    refine wpAnyH_take (i := 3) (v := ?_) rfl (by kernel_rfl) (by kernel_rfl) (by kernel_rfl) (fun _ _ _ h => h) (Or.inl ⟨by rfl, ?_⟩) (by assumption) ?_
                    rotate_left
                    · (intro w' hSw; go_simp; try with_reducible rfl)
                    (try simp only [List.getElem_toArray]); (try simp only [List.getElem_cons_succ]); (try simp only [List.getElem_cons_zero]); (try simp only [Act.put]); (try simp only [List.setIfInBounds_toArray]); (try simp only [List.set_cons_succ]); (try simp only [List.set_cons_zero])
                    refine wpAnyH_take (i := 4) (v := undef) rfl (by kernel_rfl) (by kernel_rfl) (by kernel_rfl) (fun _ _ _ h => h) (Or.inr ⟨by rfl, rfl⟩) (by assumption) ?_
                    (try simp only [List.getElem_toArray]); (try simp only [List.getElem_cons_succ]); (try simp only [List.getElem_cons_zero]); (try simp only [Act.put]); (try simp only [List.setIfInBounds_toArray]); (try simp only [List.set_cons_succ]); (try simp only [List.set_cons_zero])
                    refine wpAnyH_take (i := 5) (v := undef) rfl (by kernel_rfl) (by kernel_rfl) (by kernel_rfl) (fun _ _ _ h => h) (Or.inr ⟨by rfl, rfl⟩) (by assumption) ?_
                    (try simp only [List.getElem_toArray]); (try simp only [List.getElem_cons_succ]); (try simp only [List.getElem_cons_zero]); (try simp only [Act.put]); (try simp only [List.setIfInBounds_toArray]); (try simp only [List.set_cons_succ]); (try simp only [List.set_cons_zero])
                    refine wpAnyH_take (i := 6) (v := undef) rfl (by kernel_rfl) (by kernel_rfl) (by kernel_rfl) (fun _ _ _ h => h) (Or.inr ⟨by rfl, rfl⟩) (by assumption) ?_
                    (try simp only [List.getElem_toArray]); (try simp only [List.getElem_cons_succ]); (try simp only [List.getElem_cons_zero]); (try simp only [Act.put]); (try simp only [List.setIfInBounds_toArray]); (try simp only [List.set_cons_succ]); (try simp only [List.set_cons_zero])
                    refine wpAnyH_take (i := 7) (v := undef) rfl (by kernel_rfl) (by kernel_rfl) (by kernel_rfl) (fun _ _ _ h => h) (Or.inr ⟨by rfl, rfl⟩) (by assumption) ?_
                    (try simp only [List.getElem_toArray]); (try simp only [List.getElem_cons_succ]); (try simp only [List.getElem_cons_zero]); (try simp only [Act.put]); (try simp only [List.setIfInBounds_toArray]); (try simp only [List.set_cons_succ]); (try simp only [List.set_cons_zero])
                    refine wpAnyH_take (i := 8) (v := undef) rfl (by kernel_rfl) (by kernel_rfl) (by kernel_rfl) (fun _ _ _ h => h) (Or.inr ⟨by rfl, rfl⟩) (by assumption) ?_
                    (try simp only [List.getElem_toArray]); (try simp only [List.getElem_cons_succ]); (try simp only [List.getElem_cons_zero]); (try simp only [Act.put]); (try simp only [List.setIfInBounds_toArray]); (try simp only [List.set_cons_succ]); (try simp only [List.set_cons_zero])
                    refine wpAnyH_take (i := 9) (v := undef) rfl (by kernel_rfl) (by kernel_rfl) (by kernel_rfl) (fun _ _ _ h => h) (Or.inr ⟨by rfl, rfl⟩) (by assumption) ?_
                    (try simp only [List.getElem_toArray]); (try simp only [List.getElem_cons_succ]); (try simp only [List.getElem_cons_zero]); (try simp only [Act.put]); (try simp only [List.setIfInBounds_toArray]); (try simp only [List.set_cons_succ]); (try simp only [List.set_cons_zero])
                    refine wpAnyH_take (i := 10) (v := undef) rfl (by kernel_rfl) (by kernel_rfl) (by kernel_rfl) (fun _ _ _ h => h) (Or.inr ⟨by rfl, rfl⟩) (by assumption) ?_
                    (try simp only [List.getElem_toArray]); (try simp only [List.getElem_cons_succ]); (try simp only [List.getElem_cons_zero]); (try simp only [Act.put]); (try simp only [List.setIfInBounds_toArray]); (try simp only [List.set_cons_succ]); (try simp only [List.set_cons_zero])
                    refine wpAnyH_take (i := 11) (v := undef) rfl (by kernel_rfl) (by kernel_rfl) (by kernel_rfl) (fun _ _ _ h => h) (Or.inr ⟨by rfl, rfl⟩) (by assumption) ?_
                    (try simp only [List.getElem_toArray]); (try simp only [List.getElem_cons_succ]); (try simp only [List.getElem_cons_zero]); (try simp only [Act.put]); (try simp only [List.setIfInBounds_toArray]); (try simp only [List.set_cons_succ]); (try simp only [List.set_cons_zero])
                    refine wpAnyH_take (i := 12) (v := undef) rfl (by kernel_rfl) (by kernel_rfl) (by kernel_rfl) (fun _ _ _ h => h) (Or.inr ⟨by rfl, rfl⟩) (by assumption) ?_
                    (try simp only [List.getElem_toArray]); (try simp only [List.getElem_cons_succ]); (try simp only [List.getElem_cons_zero]); (try simp only [Act.put]); (try simp only [List.setIfInBounds_toArray]); (try simp only [List.set_cons_succ]); (try simp only [List.set_cons_zero])
                    refine wpAnyH_take (i := 13) (v := undef) rfl (by kernel_rfl) (by kernel_rfl) (by kernel_rfl) (fun _ _ _ h => h) (Or.inr ⟨by rfl, rfl⟩) (by assumption) ?_
                    (try simp only [List.getElem_toArray]); (try simp only [List.getElem_cons_succ]); (try simp only [List.getElem_cons_zero]); (try simp only [Act.put]); (try simp only [List.setIfInBounds_toArray]); (try simp only [List.set_cons_succ]); (try simp only [List.set_cons_zero])
                    refine wpAnyH_take (i := 14) (v := ?_) rfl (by kernel_rfl) (by kernel_rfl) (by kernel_rfl) (fun _ _ _ h => h) (Or.inl ⟨by rfl, ?_⟩) (by assumption) ?_
                    rotate_left
                    · (intro w' hSw; go_simp; try with_reducible rfl)
                    (try simp only [List.getElem_toArray]); (try simp only [List.getElem_cons_succ]); (try simp only [List.getElem_cons_zero]); (try simp only [Act.put]); (try simp only [List.setIfInBounds_toArray]); (try simp only [List.set_cons_succ]); (try simp only [List.set_cons_zero])
                    refine wpAnyH_take (i := 15) (v := ?_) rfl (by kernel_rfl) (by kernel_rfl) (by kernel_rfl) (fun _ _ _ h => h) (Or.inl ⟨by rfl, ?_⟩) (by assumption) ?_
                    rotate_left
                    · (intro w' hSw; go_simp; try with_reducible rfl)
                    (try simp only [List.getElem_toArray]); (try simp only [List.getElem_cons_succ]); (try simp only [List.getElem_cons_zero]); (try simp only [Act.put]); (try simp only [List.setIfInBounds_toArray]); (try simp only [List.set_cons_succ]); (try simp only [List.set_cons_zero])
                    refine wpAnyH_done (by kernel_rfl) ?_ _
                    have hU1 := hV0
                    go_wp2_with fail
                    have I3 := I.up (Up.refl wo).drew
                    have hcD1 : wo.drew.cell? ⟨gB, k, none⟩ = some (.int .i64 (vk : Nat)) := hcB1
                    have hcD2 : wo.drew.cell? ⟨gB, i, none⟩ = some (.int .i64 (vi : Nat)) := hcB2
                    obtain ⟨w3, hw3⟩ : ∃ w3, w3 = wo.drew := ⟨_, rfl⟩
                    rw [← hw3] at I3 hcD1 hcD2
                    have hgBl3 : gB < w3.heap.size := by rw [hw3]; exact hgBl
                    rw [← hw3]
                    clear hw3 I hy hlg hcB1 hcB2 hgBl hU1 hV0
                    have I := I3
                    have hcB1 := hcD1
                    have hcB2 := hcD2
                    have hy := I.g.two
                    have hlg := I.g.lt
                    clear hcD1 hcD2
                    have hV0 : Up w3 w3.drew := (Up.refl _).drew
                    refine wp_region_held_drew (S := (fun w' => Up w3 w' ∧ (∀ b o, b < w3.heap.size → w'.cell? ⟨b, o, none⟩ = w3.cell? ⟨b, o, none⟩))) (by kernel_rfl) (by exact ⟨hV0, fun _ _ hb => hV0.cell hb⟩) (fun hHeld => ?_)
                    refine wpAnyH_take (i := 0) (v := ?_) rfl (by kernel_rfl) (by kernel_rfl) (by kernel_rfl) (fun _ _ _ h => h) (Or.inl ⟨by rfl, ?_⟩) (by assumption) ?_
                    rotate_left
                    · (intro w' hSw; go_simp; try with_reducible rfl)
                    (try simp only [List.getElem_toArray]); (try simp only [List.getElem_cons_succ]); (try simp only [List.getElem_cons_zero]); (try simp only [Act.put]); (try simp only [List.setIfInBounds_toArray]); (try simp only [List.set_cons_succ]); (try simp only [List.set_cons_zero])
                    refine wpAnyH_take (i := 1) (v := ?_) rfl (by kernel_rfl) (by kernel_rfl) (by kernel_rfl) (fun _ _ _ h => h) (Or.inl ⟨by rfl, ?_⟩) (by assumption) ?_
                    rotate_left
                    · (intro w' hSw; go_simp; try with_reducible rfl)
                    (try simp only [List.getElem_toArray]); (try simp only [List.getElem_cons_succ]); (try simp only [List.getElem_cons_zero]); (try simp only [Act.put]); (try simp only [List.setIfInBounds_toArray]); (try simp only [List.set_cons_succ]); (try simp only [List.set_cons_zero])
                    refine wpAnyH_take (i := 2) (v := ?_) rfl (by kernel_rfl) (by kernel_rfl) (by kernel_rfl) (fun _ _ _ h => h) (Or.inl ⟨by rfl, ?_⟩) (by assumption) ?_
                    rotate_left
                    · (intro w' hSw; go_simp; try with_reducible rfl)
                    (try simp only [List.getElem_toArray]); (try simp only [List.getElem_cons_succ]); (try simp only [List.getElem_cons_zero]); (try simp only [Act.put]); (try simp only [List.setIfInBounds_toArray]); (try simp only [List.set_cons_succ]); (try simp only [List.set_cons_zero])
                    refine wpAnyH_take (i := 3) (v := ?_) rfl (by kernel_rfl) (by kernel_rfl) (by kernel_rfl) (fun _ _ _ h => h) (Or.inl ⟨by rfl, ?_⟩) (by assumption) ?_
                    rotate_left
                    · (intro w' hSw; go_simp; try with_reducible rfl)
                    (try simp only [List.getElem_toArray]); (try simp only [List.getElem_cons_succ]); (try simp only [List.getElem_cons_zero]); (try simp only [Act.put]); (try simp only [List.setIfInBounds_toArray]); (try simp only [List.set_cons_succ]); (try simp only [List.set_cons_zero])
                    refine wpAnyH_take (i := 4) (v := undef) rfl (by kernel_rfl) (by kernel_rfl) (by kernel_rfl) (fun _ _ _ h => h) (Or.inr ⟨by rfl, rfl⟩) (by assumption) ?_
                    (try simp only [List.getElem_toArray]); (try simp only [List.getElem_cons_succ]); (try simp only [List.getElem_cons_zero]); (try simp only [Act.put]); (try simp only [List.setIfInBounds_toArray]); (try simp only [List.set_cons_succ]); (try simp only [List.set_cons_zero])
                    refine wpAnyH_take (i := 5) (v := undef) rfl (by kernel_rfl) (by kernel_rfl) (by kernel_rfl) (fun _ _ _ h => h) (Or.inr ⟨by rfl, rfl⟩) (by assumption) ?_
                    (try simp only [List.getElem_toArray]); (try simp only [List.getElem_cons_succ]); (try simp only [List.getElem_cons_zero]); (try simp only [Act.put]); (try simp only [List.setIfInBounds_toArray]); (try simp only [List.set_cons_succ]); (try simp only [List.set_cons_zero])
                    refine wpAnyH_take (i := 6) (v := undef) rfl (by kernel_rfl) (by kernel_rfl) (by kernel_rfl) (fun _ _ _ h => h) (Or.inr ⟨by rfl, rfl⟩) (by assumption) ?_
                    (try simp only [List.getElem_toArray]); (try simp only [List.getElem_cons_succ]); (try simp only [List.getElem_cons_zero]); (try simp only [Act.put]); (try simp only [List.setIfInBounds_toArray]); (try simp only [List.set_cons_succ]); (try simp only [List.set_cons_zero])
                    refine wpAnyH_take (i := 7) (v := undef) rfl (by kernel_rfl) (by kernel_rfl) (by kernel_rfl) (fun _ _ _ h => h) (Or.inr ⟨by rfl, rfl⟩) (by assumption) ?_
                    (try simp only [List.getElem_toArray]); (try simp only [List.getElem_cons_succ]); (try simp only [List.getElem_cons_zero]); (try simp only [Act.put]); (try simp only [List.setIfInBounds_toArray]); (try simp only [List.set_cons_succ]); (try simp only [List.set_cons_zero])
                    refine wpAnyH_take (i := 8) (v := undef) rfl (by kernel_rfl) (by kernel_rfl) (by kernel_rfl) (fun _ _ _ h => h) (Or.inr ⟨by rfl, rfl⟩) (by assumption) ?_
                    (try simp only [List.getElem_toArray]); (try simp only [List.getElem_cons_succ]); (try simp only [List.getElem_cons_zero]); (try simp only [Act.put]); (try simp only [List.setIfInBounds_toArray]); (try simp only [List.set_cons_succ]); (try simp only [List.set_cons_zero])
                    refine wpAnyH_take (i := 9) (v := undef) rfl (by kernel_rfl) (by kernel_rfl) (by kernel_rfl) (fun _ _ _ h => h) (Or.inr ⟨by rfl, rfl⟩) (by assumption) ?_
                    (try simp only [List.getElem_toArray]); (try simp only [List.getElem_cons_succ]); (try simp only [List.getElem_cons_zero]); (try simp only [Act.put]); (try simp only [List.setIfInBounds_toArray]); (try simp only [List.set_cons_succ]); (try simp only [List.set_cons_zero])
                    refine wpAnyH_take (i := 10) (v := undef) rfl (by kernel_rfl) (by kernel_rfl) (by kernel_rfl) (fun _ _ _ h => h) (Or.inr ⟨by rfl, rfl⟩) (by assumption) ?_
                    (try simp only [List.getElem_toArray]); (try simp only [List.getElem_cons_succ]); (try simp only [List.getElem_cons_zero]); (try simp only [Act.put]); (try simp only [List.setIfInBounds_toArray]); (try simp only [List.set_cons_succ]); (try simp only [List.set_cons_zero])
                    refine wpAnyH_take (i := 11) (v := undef) rfl (by kernel_rfl) (by kernel_rfl) (by kernel_rfl) (fun _ _ _ h => h) (Or.inr ⟨by rfl, rfl⟩) (by assumption) ?_
                    (try simp only [List.getElem_toArray]); (try simp only [List.getElem_cons_succ]); (try simp only [List.getElem_cons_zero]); (try simp only [Act.put]); (try simp only [List.setIfInBounds_toArray]); (try simp only [List.set_cons_succ]); (try simp only [List.set_cons_zero])
                    refine wpAnyH_take (i := 12) (v := undef) rfl (by kernel_rfl) (by kernel_rfl) (by kernel_rfl) (fun _ _ _ h => h) (Or.inr ⟨by rfl, rfl⟩) (by assumption) ?_
                    (try simp only [List.getElem_toArray]); (try simp only [List.getElem_cons_succ]); (try simp only [List.getElem_cons_zero]); (try simp only [Act.put]); (try simp only [List.setIfInBounds_toArray]); (try simp only [List.set_cons_succ]); (try simp only [List.set_cons_zero])
                    refine wpAnyH_take (i := 13) (v := undef) rfl (by kernel_rfl) (by kernel_rfl) (by kernel_rfl) (fun _ _ _ h => h) (Or.inr ⟨by rfl, rfl⟩) (by assumption) ?_
                    (try simp only [List.getElem_toArray]); (try simp only [List.getElem_cons_succ]); (try simp only [List.getElem_cons_zero]); (try simp only [Act.put]); (try simp only [List.setIfInBounds_toArray]); (try simp only [List.set_cons_succ]); (try simp only [List.set_cons_zero])
                    refine wpAnyH_take (i := 14) (v := ?_) rfl (by kernel_rfl) (by kernel_rfl) (by kernel_rfl) (fun _ _ _ h => h) (Or.inl ⟨by rfl, ?_⟩) (by assumption) ?_
                    rotate_left
                    · (intro w' hSw; go_simp; try with_reducible rfl)
                    (try simp only [List.getElem_toArray]); (try simp only [List.getElem_cons_succ]); (try simp only [List.getElem_cons_zero]); (try simp only [Act.put]); (try simp only [List.setIfInBounds_toArray]); (try simp only [List.set_cons_succ]); (try simp only [List.set_cons_zero])
                    refine wpAnyH_take (i := 15) (v := ?_) rfl (by kernel_rfl) (by kernel_rfl) (by kernel_rfl) (fun _ _ _ h => h) (Or.inl ⟨by rfl, ?_⟩) (by assumption) ?_
                    rotate_left
                    · (intro w' hSw; go_simp; try with_reducible rfl)
                    (try simp only [List.getElem_toArray]); (try simp only [List.getElem_cons_succ]); (try simp only [List.getElem_cons_zero]); (try simp only [Act.put]); (try simp only [List.setIfInBounds_toArray]); (try simp only [List.set_cons_succ]); (try simp only [List.set_cons_zero])
                    refine wpAnyH_done (by kernel_rfl) ?_ _
                    have hU2 := hV0
                    have I2 := I.up hU2
                    have hci := I2.m.nat (j := i) (by rw [I2.len]; exact hin)
                    have hck := I2.m.nat (j := k) (by rw [I2.len]; exact hkn)
                    rw [← HXi.out] at hci
                    rw [← HXk.out] at hck
                    have hfz := I2.m.frozen i
                    have hput := I2.put hgBX hAx hgX i (max xi (0))
                    have HV := Lib.hid (show x.set i (max xi (0)) = stK J x0 i (k + 1) by rw [stK, ← hx.out, ← HXi.out]; congr 2; rw [slst, if_neg hki, if_neg fun e => hik e.1])
                    rw [HV.out] at hput
                    have HMZ := Lib.hid (max_z (a := xi) (l := 0) (z := 0) (.inl rfl))
                    have HMN := Lib.hid (max_n xi (0))
                    clear I hy hcB1 hcB2
                    go_wp2
                    go_roundw
                    case rel => exact ⟨k + 1, _, by omega, by go_num, rfl, by first | exact hput | (rw [Nat.max_zero] at hput; exact hput) | (rw [HMZ.out]; exact hput) | (rw [HMN.out]; exact hput) | (rw [imax_n]; exact hput) | (rw [imax_if]; rw [HMZ.out]; exact hput) | (rw [← HMZ.out] at hput; simpa using hput)⟩
                    case measure => simp [intOf]; omega
              · obtain rfl : k = n := by omega
                have HN := Lib.hid (show x = stI J k xr (i + 1) by rw [stI, ← hx0.out]; exact hx.out)
                go_wp2
                go_roundw
                case rel => exact ⟨i + 1, x, by omega, by go_num, HN.out, I⟩
                case measure => simp [intOf]; omega
          · obtain rfl : i = n := by omega
            have HN := Lib.hid (show x0 = stR J i (r + 1) by rw [stR, ← hxr.out]; exact hx0.out)
            go_wp2
            go_roundw
            case rel => exact ⟨r + 1, x0, by omega, by go_num, HN.out, I⟩
            case measure => simp [intOf]; omega
      · have Hr := Lib.hid (show r = nn + 1 by omega)
        have HX3 := Lib.hid (show xr = rsR (adjP Q o) n 3 by rw [hxr.out, ← HJ.out, Hr.out]; exact HSm.out)
        clear hr
        have hmk := make_ints n (by omega)
        have hbel := I.below
        have hbs := hbel.size
        go_wp2_with fail
        go_cut [12] from 103 (fun p wx => ∃ bI gL gR : Nat, p = .pointer (some ⟨bI, 0, none⟩) ∧ wr.heap.size ≤ bI ∧ wr.heap.size ≤ gL ∧ wr.heap.size ≤ gR ∧ gL ≠ gR ∧ Blk wx bI 31 #[.slice (some ⟨gL, 0, none⟩) n n, .slice (some ⟨gR, 0, none⟩) n n] ∧ Blk wx gL 3 (zeros n) ∧ Blk wx gR 3 (zeros n) ∧ Up wr wx)
        case first =>
          go_region_with (fail)
          all_goals
            go_wp2_with fail
            go_meet
            apply tri_cut 31
            first | exact tri3 .. | exact tri2 .. | exact tri1 ..
            first | exact tri1 .. | exact tri2 .. | exact tri3 ..
            first | exact tri1 .. | exact tri2 .. | exact tri3 ..
            go_grown
            all_goals omega
        case rest =>
          obtain ⟨bI, gL, gR, rfl, hzI, hzL, hzR, hLR, hI, hL, hR, hUc⟩ := hcut
          have I2 := I.up hUc
          rw [HX3.out] at I2
          rw [← natCells_zero] at hL hR
          have hgXl := I.m.lt
          have hgBl : gB < wr.heap.size := by
            obtain ⟨ad, e, hlt, _⟩ := I.ord.at_ (k := 0) (by omega)
            injection e with e
            subst e
            exact hlt
          have hrl := I.r.lt
          have hAl : ∀ ad, A = some ad → ad.block < wr.heap.size := fun ad e => by
            obtain ⟨ad', e', hlt, _⟩ := I.row.at_ (k := 0) (by omega)
            rw [e] at e'
            injection e' with e'
            subst e'
            exact hlt
          have hXl := Lib.hid (fun j => show nb (rsR (adjP Q o) n 3) j ≤ 1200 from rsR_le (adjP Q o) h7 3 j)
          have HUL := Lib.hid (show unitL Q o n = lfo o n (rsR (adjP Q o) n 3) from rfl)
          obtain ⟨X3, hX3⟩ : ∃ X3, X3 = rsR (adjP Q o) n 3 := ⟨_, rfl⟩
          rw [← hX3] at I2 hXl HUL
          clear hX3 hxr HX3 I hmk hbel hbs
          obtain ⟨b0, hb0⟩ : ∃ b0, b0 = wr.heap.size := ⟨_, rfl⟩
          rw [← hb0] at hzI hzL hzR hgXl hgBl hrl hAl
          go_wp2
          go_loopw [13] (fun t wy => ∃ (i : Nat) (L R : List Nat), i ≤ n ∧ t = .int .i64 i ∧ L.length = n ∧ R.length = n ∧ Hid (∀ j, j < i → nb L (nb o j) = nb X3 j ∧ nb R (nb o j) = nb X3 j + 7) ∧ Blk wy gL 3 (natCells L) ∧ Blk wy gR 3 (natCells R) ∧ Blk wy bI 31 #[.slice (some ⟨gL, 0, none⟩) n n, .slice (some ⟨gR, 0, none⟩) n n] ∧ SzInv w A Q gX gB n c o wy X3) (fun t _ => n - (intOf t).toNat)
          case atStart => exact ⟨0, _, _, Nat.zero_le _, rfl, by simp, by simp, fun j hj => absurd hj (by omega), hL, hR, hI, I2⟩
          case round =>
            clear hL hR hI I2 hUc hb0
            obtain ⟨i, L, R, hi, rfl, hLn, hRn, hall, hL, hR, hI, I⟩ := hrel
            obtain ⟨wo, rfl⟩ : ∃ wo : World, wo = wr := ⟨_, rfl⟩
            by_cases hin : i < n
            · have hyI := hI.two
              have hcB : wo.cell? ⟨gB, i, none⟩ = some (.int .i64 (nb o i)) := by have := I.ord.nbs hin; rwa [add_0x] at this
              have hcX := I.m.nat (j := i) (by rw [I.len]; exact hin)
              have hvi := HO.out.at_ (j := i) (by rw [HL.out]; exact hin)
              have hxb := hXl.out i
              have HN := Lib.hid (show ∀ j, j < i + 1 → nb (L.set (nb o i) (nb X3 i)) (nb o j) = nb X3 j ∧ nb (R.set (nb o i) (nb X3 i + 7)) (nb o j) = nb X3 j + 7 from fun j hj => by
                rw [nb_set' (by rw [hLn]; exact hvi), nb_set' (by rw [hRn]; exact hvi)]
                by_cases e : j = i
                · subst e; rw [if_pos rfl, if_pos rfl]; exact ⟨rfl, rfl⟩
                · have hne : nb o j ≠ nb o i := fun e' => e (HO.out.inj (by rw [HL.out]; omega) (by rw [HL.out]; exact hin) e')
                  rw [if_neg hne, if_neg hne]
                  exact hall.out j (by omega))
              obtain ⟨v, hv⟩ : ∃ v, v = nb o i := ⟨_, rfl⟩
              obtain ⟨x, hx⟩ : ∃ x, x = nb X3 i := ⟨_, rfl⟩
              rw [← hv] at hcB hvi HN
              rw [← hx] at hcX hxb HN
              have HV := Lib.hid hv.symm
              have HXv := Lib.hid hx.symm
              clear hv hx
              have hfL := hL.frozen v
              have hcL := hL.nat (j := v) (by rw [hLn]; exact hvi)
              go_wp2_with fail
              go_still_tail 11, (by kernel_rfl)
              change wpList _ _ _ _ _ wo.drew
              have hcL' : wo.drew.cell? ⟨gL, v, none⟩ = some (.int .i64 (nb L v)) := hcL
              have hfL' : wo.drew.frozen? ⟨gL, v, none⟩ = false := hfL
              go_wp2_with fail
              have hL1 := (hL.set_ v (.int .i64 (x : Int))).drew
              rw [natCells_set] at hL1
              have hR1 := (hR.far (p := ⟨gL, v, none⟩) (Ne.symm hLR) (.int .i64 (x : Int))).drew
              have hI1 := (hI.far (p := ⟨gL, v, none⟩) (hI.ne_ hL (by decide)) (.int .i64 (x : Int))).drew
              have I1 := (I.far (p := ⟨gL, v, none⟩) hzL hgXl hgBl hrl hAl (.int .i64 (x : Int))).up (Up.refl _).drew
              generalize ((wo.setCell ⟨gL, v, none⟩ (.int .i64 (x : Int))).drew) = W1 at hL1 hR1 hI1 I1 ⊢
              clear hL hR hI I hcL hfL hcL' hfL' hcB hcX hyI
              have hyI := hI1.two
              have hcB : W1.cell? ⟨gB, i, none⟩ = some (.int .i64 (v : Nat)) := by have := I1.ord.nbs hin; rwa [add_0x, HV.out] at this
              have hcX : W1.cell? ⟨gX, i, none⟩ = some (.int .i64 (x : Nat)) := by have := I1.m.nat (j := i) (by rw [I1.len]; exact hin); rwa [HXv.out] at this
              have hfR := hR1.frozen v
              have hcR := hR1.nat (j := v) (by rw [hRn]; exact hvi)
              go_wp2_with fail
              go_still_tail 12, (by kernel_rfl)
              change wpList _ _ _ _ _ W1.drew
              have hcR' : W1.drew.cell? ⟨gR, v, none⟩ = some (.int .i64 (nb R v)) := hcR
              have hfR' : W1.drew.frozen? ⟨gR, v, none⟩ = false := hfR
              go_wp2_with fail
              have hR2 := (hR1.set_ v (.int .i64 ((x + 7 : Nat) : Int))).drew
              rw [natCells_set] at hR2
              have hL2 := (hL1.far (p := ⟨gR, v, none⟩) hLR (.int .i64 ((x + 7 : Nat) : Int))).drew
              have hI2 := (hI1.far (p := ⟨gR, v, none⟩) (hI1.ne_ hR1 (by decide)) (.int .i64 ((x + 7 : Nat) : Int))).drew
              have I2 := (I1.far (p := ⟨gR, v, none⟩) hzR hgXl hgBl hrl hAl (.int .i64 ((x + 7 : Nat) : Int))).up (Up.refl _).drew
              have HE7 : ((x + 7 : Nat) : Int) = (x : Int) + 7 := by omega
              rw [HE7] at hR2 hL2 hI2 I2
              clear hL1 hR1 hI1 I1 hcR hfR hcR' hfR' hcB hcX hyI HE7
              go_roundw
              case rel => exact ⟨i + 1, _, _, by omega, by go_num, by rw [List.length_set]; exact hLn, by rw [List.length_set]; exact hRn, HN, hL2, hR2, hI2, I2⟩
              case measure => simp [intOf]; omega
            · obtain rfl : i = n := by omega
              have hD := unit_done HO.out HL.out hLn hRn hall.out
              rw [← HUL.out] at hD
              obtain ⟨rfl, rfl⟩ := hD
              have f0 := I.r.frozen 0
              have f1 := I.r.frozen 1
              have hyr := I.r.two
              have hyI := hI.two
              have HRl2 := Lib.hid (show ((unitL Q o i).map (· + 7)).length = i from hRn)
              have hoL : OwnI wo w.heap.size (some ⟨gL, 0, none⟩) i i (ints (unitL Q o i)) := by
                have := hL.own (base := w.heap.size) (n := i) (by omega) (by rw [natCells_size]; exact hLn) (by unfold maxLen; omega)
                unfold OwnI
                exact this
              have hoR : OwnI wo w.heap.size (some ⟨gR, 0, none⟩) i i (ints ((unitL Q o i).map (· + 7))) := by
                have := hR.own (base := w.heap.size) (n := i) (by omega) (by rw [natCells_size]; exact hRn) (by unfold maxLen; omega)
                unfold OwnI
                exact this
              have hfin := ((I.r.set_ 0 (.slice (some ⟨gL, 0, none⟩) i i)).set_ 1 (.slice (some ⟨gR, 0, none⟩) i i)).two
              have hbf := (I.below.setCell (p := ⟨w.heap.size + 1, 0, none⟩) (by simp) (.slice (some ⟨gL, 0, none⟩) i i)).setCell (p := ⟨w.heap.size + 1, 1, none⟩) (by simp) (.slice (some ⟨gR, 0, none⟩) i i)
              have hLf := (hoL.other_store (i := 0) I.r (by decide) (.slice (some ⟨gL, 0, none⟩) i i)).other_store (i := 1) (I.r.set_ 0 (.slice (some ⟨gL, 0, none⟩) i i)) (by decide) (.slice (some ⟨gR, 0, none⟩) i i)
              have hRf := (hoR.other_store (i := 0) I.r (by decide) (.slice (some ⟨gL, 0, none⟩) i i)).other_store (i := 1) (I.r.set_ 0 (.slice (some ⟨gL, 0, none⟩) i i)) (by decide) (.slice (some ⟨gR, 0, none⟩) i i)
              have hap : ∀ k, (Value.slice (some ⟨gL, 0, none⟩) i i).ownBlock = some k → (Value.slice (some ⟨gR, 0, none⟩) i i).ownBlock ≠ some k := fun k hk e => by
                have h1 : gL = k := by simpa [Value.ownBlock] using hk
                have h2 : gR = k := by simpa [Value.ownBlock] using e
                omega
              have HLl2 := Lib.hid hLn
              clear hLn hRn hall hL hR hI I hoL hoR hzI hzL hzR hAl hrl hgXl hgBl
              go_wp2
              generalize (wo.setCell ⟨w.heap.size + 1, 0, none⟩ (.slice (some ⟨gL, 0, none⟩) i i)).setCell ⟨w.heap.size + 1, 1, none⟩ (.slice (some ⟨gR, 0, none⟩) i i) = Wf at hfin hbf hLf hRf ⊢
              refine bodyPost_ret (v := .tuple #[.agg #[.slice (some ⟨gL, 0, none⟩) i i, .slice (some ⟨gR, 0, none⟩) i i], .bool true]) ?_ rfl ?_
              · simp [results, Tryz.results10, go_sem, hfin]
              rw [HR.out]
              exact givesTB_of HLl2.out HRl2.out hLf hRf hap (Nat.le_refl _) hbf
end Go.Proofs.YthncdjcmlpiebaaGreat
