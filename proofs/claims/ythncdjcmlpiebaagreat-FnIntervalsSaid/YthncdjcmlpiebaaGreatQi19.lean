/- Walks of chapter 9: is it a model of a graph. The library's contracts for slices.Sort, slices.Compact and slices.Clone, laid at this seat's translation (written by the kit's tools lay-shelf and lay-plain for this seat; other seats have other numbers). Sorting: the library's Sort and Compact on rows of the call's own, sorted (the program's), l8Sorted (the reference's). Walks of chapter 10: sets that follow one another. Walks of chapter 10: the reference's search for orders of cliques. -/
import Derived.Test.YthncdjcmlpiebaaGreatProg
import Derived.Test.YthncdjcmlpiebaaGreatQi03
import Derived.Test.YthncdjcmlpiebaaGreatQi04
import Derived.Test.YthncdjcmlpiebaaGreatQi06
import Derived.Test.YthncdjcmlpiebaaGreatQi08
import Derived.Test.YthncdjcmlpiebaaGreatQi12
import Derived.Test.YthncdjcmlpiebaaGreatQi18
import Derived.Deep.LoopGhost
import Derived.Deep.RegionLaw
import Derived.Shelf.Lays
import Derived.Shelf.Lays2
import Derived.Shelf.Slices.Clone
import Derived.Shelf.Slices.CompactI
import Derived.Shelf.Slices.In.SortNone
import Derived.Shelf.Sort.Plain
import Derived.Sort.OwnSortedInts
namespace Go.Proofs.YthncdjcmlpiebaaGreat
open Go.RowKit
def sameGraph (N M : Int) (xs ys : List Int) : Bool := decide (N = M) && decide (xs = ys)
set_option maxRecDepth 100000 in
theorem sameGraph_no {N M : Int} {xs ys : List Int} (h : N ≠ M) : sameGraph N M xs ys = false := by rw [sameGraph, decide_eq_false h]; rfl
set_option maxRecDepth 100000 in
theorem sameGraph_yes {N : Int} {xs ys : List Int} : sameGraph N N xs ys = decide (xs = ys) := by rw [sameGraph, decide_eq_true rfl]; rfl
set_option maxRecDepth 100000 in
set_option maxHeartbeats 1000000 in
theorem implEqualGraphs_any (N M : Int) (A B : Option Addr) (n m ca cb : Nat) (xs ys : List Int) (w : World) (hA : RI w A n xs) (hB : RI w B m ys) (hn : n ≤ 9223372036854775807) :
    Calls Tryz.prog 77 #[.agg #[.int .i64 N, .slice A n ca], .agg #[.int .i64 M, .slice B m cb]] w fun e w' => e = .returned (.bool (sameGraph N M xs ys)) ∧ Below w.heap.size w w' := by
  by_cases hNM : N = M
  · subst hNM
    have HS := Lib.hid (sameGraph_yes (N := N) (xs := xs) (ys := ys))
    go_enter Tryz.func77, Tryz.ntmps77
    go_wp2_with fail
    refine (slEqual_any A B n m ca cb xs ys _ (hA.up (by go_grown)) (hB.up (by go_grown)) hn).mono ?_
    rintro e w1 ⟨rfl, hb1⟩
    have hU1 : Up w w1 := Up.then_ (by go_grown) hb1
    go_wp2
    go_ret
    exact ⟨ret_bool HS.out.symm, hU1⟩
  · have HS := Lib.hid (sameGraph_no (xs := xs) (ys := ys) hNM)
    have hne : (N == M) = false := by rw [beq_eq_false_iff_ne]; exact hNM
    clear hNM
    go_enter Tryz.func77, Tryz.ntmps77
    go_wp2
    go_ret
    exact ⟨ret_bool HS.out.symm, by go_grown⟩
set_option maxRecDepth 100000 in
set_option maxHeartbeats 1000000 in
theorem specEqualGraphs_any (N M : Int) (A B : Option Addr) (n m ca cb : Nat) (xs ys : List Int) (w : World) (hA : RI w A n xs) (hB : RI w B m ys) (hn : n ≤ 9223372036854775807) :
    Calls Tryz.prog 122 #[.agg #[.int .i64 N, .slice A n ca], .agg #[.int .i64 M, .slice B m cb]] w fun e w' => e = .returned (.bool (sameGraph N M xs ys)) ∧ Below w.heap.size w w' := by
  have HX := Lib.hid hA.1
  have HY := Lib.hid hB.1
  by_cases hNM : N = M
  · subst hNM
    have HS := Lib.hid (sameGraph_yes (N := N) (xs := xs) (ys := ys))
    by_cases hnm : n = m
    · subst hnm
      have hb0 := (Blk.new w 26 #[.int .i64 N, .slice A n ca]).alloc (.cells #[.int .i64 N, .slice B n cb] 26)
      have hb1 := Blk.new_at (w := w.alloc (.cells #[.int .i64 N, .slice A n ca] 26)) (t := 26) (cs := #[.int .i64 N, .slice B n cb]) (g := w.heap.size + 1) (by simp)
      go_enter Tryz.func122, Tryz.ntmps122
      go_wp2_with fail
      go_loopw [5] (fun i wr => ∃ k : Nat, k ≤ n ∧ i = .int .i64 k ∧ Blk wr w.heap.size 26 #[.int .i64 N, .slice A n ca] ∧ Blk wr (w.heap.size + 1) 26 #[.int .i64 N, .slice B n cb] ∧ Below w.heap.size w wr ∧ Hid (∀ j, j < k → xs.getD j 0 = ys.getD j 0)) (fun i _ => n - (intOf i).toNat)
      case atStart => exact ⟨0, Nat.zero_le _, rfl, hb0, hb1, by go_grown, fun j h => absurd h (by omega)⟩
      case round =>
        clear hb0 hb1
        obtain ⟨k, hk, rfl, hb0, hb1, hb, hall⟩ := hrel
        have hy0 := hb0.two
        have hy1 := hb1.two
        by_cases hlt : k < n
        · obtain ⟨a, rfl, ha, hca⟩ := (hA.up hb).at_ hlt
          obtain ⟨b, rfl, hb', hcb⟩ := (hB.up hb).at_ hlt
          go_wp2_with fail
          go_quiet (fail)
          go_wp2
          · go_ret
            have h : (xs[k]?.getD 0 != ys[k]?.getD 0) = true := by assumption
            exact ⟨ret_bool (HS.out.trans (list_ne_at (k := k) (by simpa using h))).symm, below_drewN hb _⟩
          · have h : (xs[k]?.getD 0 != ys[k]?.getD 0) = false := by assumption
            go_roundw
            case rel => exact ⟨k + 1, by omega, by go_num, hb0.drewN _, hb1.drewN _, below_drewN hb _, fun j hj => by
              rcases Nat.lt_succ_iff_lt_or_eq.1 hj with h' | rfl
              · exact hall.out j h'
              · simpa using h⟩
            case measure => simp [intOf]; omega
        · obtain rfl : k = n := by omega
          go_wp2
          go_ret
          exact ⟨ret_bool (HS.out.trans (list_eq_of HX.out HY.out hall.out)).symm, hb⟩
    · have e : ((n : Int) != m) = true := by simp; omega
      go_enter Tryz.func122, Tryz.ntmps122
      go_wp2
      go_ret
      exact ⟨ret_bool (HS.out.trans (list_ne_len HX.out HY.out hnm)).symm, by go_grown⟩
  · have HS := Lib.hid (sameGraph_no (xs := xs) (ys := ys) hNM)
    have hne : (N != M) = true := by rw [bne_iff_ne]; exact hNM
    clear hNM
    go_enter Tryz.func122, Tryz.ntmps122
    go_wp2
    go_ret
    exact ⟨ret_bool HS.out.symm, by go_grown⟩
def isModelOf (N : Int) (X L R : List Int) : Bool := isModel L R && sameGraph (goiNum L R) N (goiRows L R) X
set_option maxRecDepth 100000 in
theorem isModelOf_no {N : Int} {X L R : List Int} (h : isModel L R = false) : isModelOf N X L R = false := by rw [isModelOf, h]; rfl
set_option maxRecDepth 100000 in
theorem isModelOf_yes {N : Int} {X L R : List Int} (h : isModel L R = true) : isModelOf N X L R = sameGraph (goiNum L R) N (goiRows L R) X := by rw [isModelOf, h]; rfl
set_option maxRecDepth 100000 in
set_option maxHeartbeats 1000000 in
theorem implIsModelOf_any (N : Int) (C : Option Addr) (k cc : Nat) (X : List Int) (A B : Option Addr) (n m ca cb : Nat) (L R : List Int) (w : World) (hX : RI w C k X) (hL : RI w A n L) (hR : RI w B m R) (hn : n ≤ 1048576) (hm : m ≤ 1048576) :
    Calls Tryz.prog 20 #[.agg #[.int .i64 N, .slice C k cc], .agg #[.slice A n ca, .slice B m cb]] w fun e w' => e = .returned (.bool (isModelOf N X L R)) ∧ Below w.heap.size w w' := by
  have hlen := goiRows_len L R
  rcases Bool.eq_false_or_eq_true (isModel L R) with hg | hg
  · have HR := Lib.hid (isModelOf_yes (N := N) (X := X) hg)
    have Hg := Lib.hid hg
    clear hg
    go_enter Tryz.func20, Tryz.ntmps20
    go_wp2_with fail
    refine (implGraphOfIntervals_any A B n m ca cb L R _ (hL.up (by go_grown)) (hR.up (by go_grown)) hn hm).mono ?_
    rintro e w1 ⟨D, d, rfl, hown, hb1⟩
    have hU1 : Up w w1 := Up.then_ (by go_grown) hb1
    replace hX := hX.up hU1
    have hb0 := ((Blk.new w 26 #[.int .i64 N, .slice C k cc]).alloc (.cells #[.slice A n ca, .slice B m cb] 31)).up hb1
    have hy0 := hb0.two
    have hl0 := hb0.lt
    rw [Hg.out]
    go_wp2_with fail
    refine (implEqualGraphs_any _ _ _ _ _ _ _ _ (goiRows L R) X _ (hown.ri.up (by go_grown)) (hX.up (by go_grown)) (by omega)).mono ?_
    rintro e w2 ⟨rfl, hb2⟩
    have hU2 : Up w1 w2 := Up.then_ (by go_grown) hb2
    replace hX := hX.up hU2
    have hw2 := Up.then_ hU1 hU2
    go_wp2
    go_ret
    exact ⟨ret_bool HR.out.symm, hw2⟩
  · have HR := Lib.hid (isModelOf_no (N := N) (X := X) hg)
    have Hg := Lib.hid hg
    clear hg
    go_enter Tryz.func20, Tryz.ntmps20
    go_wp2_with fail
    refine (implGraphOfIntervals_any A B n m ca cb L R _ (hL.up (by go_grown)) (hR.up (by go_grown)) hn hm).mono ?_
    rintro e w1 ⟨D, d, rfl, hown, hb1⟩
    have hU1 : Up w w1 := Up.then_ (by go_grown) hb1
    rw [Hg.out]
    go_wp2
    go_ret
    exact ⟨ret_bool HR.out.symm, hU1.alloc hU1.size _⟩
set_option maxRecDepth 100000 in
set_option maxHeartbeats 1000000 in
theorem specIsModelOf_any (N : Int) (C : Option Addr) (k cc : Nat) (X : List Int) (A B : Option Addr) (n m ca cb : Nat) (L R : List Int) (w : World) (hX : RI w C k X) (hL : RI w A n L) (hR : RI w B m R) (hn : n ≤ 1048576) (hm : m ≤ 1048576) :
    Calls Tryz.prog 59 #[.agg #[.int .i64 N, .slice C k cc], .agg #[.slice A n ca, .slice B m cb]] w fun e w' => e = .returned (.bool (isModelOf N X L R)) ∧ Below w.heap.size w w' := by
  have hlen := goiRows_len L R
  rcases Bool.eq_false_or_eq_true (isModel L R) with hg | hg
  · have HR := Lib.hid (isModelOf_yes (N := N) (X := X) hg)
    have Hg := Lib.hid hg
    clear hg
    go_enter Tryz.func59, Tryz.ntmps59
    go_wp2_with fail
    refine (specGraphOfIntervals_any A B n m ca cb L R _ (hL.up (by go_grown)) (hR.up (by go_grown)) hn hm).mono ?_
    rintro e w1 ⟨D, d, rfl, hown, hb1⟩
    have hU1 : Up w w1 := Up.then_ (by go_grown) hb1
    replace hX := hX.up hU1
    have hb0 := ((Blk.new w 26 #[.int .i64 N, .slice C k cc]).alloc (.cells #[.slice A n ca, .slice B m cb] 31)).up hb1
    have hy0 := hb0.two
    have hl0 := hb0.lt
    rw [Hg.out]
    go_wp2_with fail
    refine (specEqualGraphs_any _ _ _ _ _ _ _ _ (goiRows L R) X _ (hown.ri.up (by go_grown)) (hX.up (by go_grown)) (by omega)).mono ?_
    rintro e w2 ⟨rfl, hb2⟩
    have hU2 : Up w1 w2 := Up.then_ (by go_grown) hb2
    replace hX := hX.up hU2
    have hw2 := Up.then_ hU1 hU2
    go_wp2
    go_ret
    exact ⟨ret_bool HR.out.symm, hw2⟩
  · have HR := Lib.hid (isModelOf_no (N := N) (X := X) hg)
    have Hg := Lib.hid hg
    clear hg
    go_enter Tryz.func59, Tryz.ntmps59
    go_wp2_with fail
    refine (specGraphOfIntervals_any A B n m ca cb L R _ (hL.up (by go_grown)) (hR.up (by go_grown)) hn hm).mono ?_
    rintro e w1 ⟨D, d, rfl, hown, hb1⟩
    have hU1 : Up w w1 := Up.then_ (by go_grown) hb1
    rw [Hg.out]
    go_wp2
    go_ret
    exact ⟨ret_bool HR.out.symm, hU1.alloc hU1.size _⟩
end Go.Proofs.YthncdjcmlpiebaaGreat
namespace Go.Proofs
open Go.Shelf
def Tryz.lays189_ren : Go.Shelf.Ren := ⟨fun | 189 => 145 | 125 => 167 | 257 => 166 | 128 => 184 | 129 => 185 | 294 => 175 | 295 => 176 | 296 => 177 | 297 => 178 | 298 => 179 | 299 => 180 | 216 => 181 | 300 => 182 | 301 => 183 | 328 => 189 | 329 => 190 | 330 => 191 | 331 => 192 | 332 => 193 | 215 => 194 | 343 => 195 | n => n, fun | 28 => 24 | 3 => 3 | 46 => 108 | 0 => 0 | 51 => 118 | 53 => 120 | 4 => 4 | 183 => 112 | 182 => 111 | 131 => 103 | 5 => 5 | 9 => 9 | 218 => 125 | 222 => 129 | 228 => 131 | 229 => 132 | n => n, fun | n => n⟩
set_option maxRecDepth 100000 in
theorem Tryz.lays189 : Go.Proofs.Lays.n189 Tryz.prog Tryz.lays189_ren := {
  mixed := by kernel_rfl
  f125 := Tryz.func167.trans (congrArg some (by kernel_rfl))
  f128 := Tryz.func184.trans (congrArg some (by kernel_rfl))
  f129 := Tryz.func185.trans (congrArg some (by kernel_rfl))
  f189 := Tryz.func145.trans (congrArg some (by kernel_rfl))
  f215 := Tryz.func194.trans (congrArg some (by kernel_rfl))
  f216 := Tryz.func181.trans (congrArg some (by kernel_rfl))
  f257 := Tryz.func166.trans (congrArg some (by kernel_rfl))
  f294 := Tryz.func175.trans (congrArg some (by kernel_rfl))
  f295 := Tryz.func176.trans (congrArg some (by kernel_rfl))
  f296 := Tryz.func177.trans (congrArg some (by kernel_rfl))
  f297 := Tryz.func178.trans (congrArg some (by kernel_rfl))
  f298 := Tryz.func179.trans (congrArg some (by kernel_rfl))
  f299 := Tryz.func180.trans (congrArg some (by kernel_rfl))
  f300 := Tryz.func182.trans (congrArg some (by kernel_rfl))
  f301 := Tryz.func183.trans (congrArg some (by kernel_rfl))
  f328 := Tryz.func189.trans (congrArg some (by kernel_rfl))
  f329 := Tryz.func190.trans (congrArg some (by kernel_rfl))
  f330 := Tryz.func191.trans (congrArg some (by kernel_rfl))
  f331 := Tryz.func192.trans (congrArg some (by kernel_rfl))
  f332 := Tryz.func193.trans (congrArg some (by kernel_rfl))
  f343 := Tryz.func195.trans (congrArg some (by kernel_rfl))
  t0 := Tryz.underlying0
  a0 := Tryz.isAgg0
  z0 := Tryz.sizeOf0
  v0 := Tryz.zeroValue0
  t3 := Tryz.underlying3
  a3 := Tryz.isAgg3
  z3 := Tryz.sizeOf3
  v3 := Tryz.zeroValue3
  t4 := Tryz.underlying4
  a4 := Tryz.isAgg4
  z4 := Tryz.sizeOf4
  v4 := Tryz.zeroValue4
  t5 := Tryz.underlying5
  a5 := Tryz.isAgg5
  z5 := Tryz.sizeOf5
  v5 := Tryz.zeroValue5
  t9 := Tryz.underlying9
  a9 := Tryz.isAgg9
  z9 := Tryz.sizeOf9
  v9 := Tryz.zeroValue9
  t28 := Tryz.underlying24
  a28 := Tryz.isAgg24
  z28 := Tryz.sizeOf24
  v28 := Tryz.zeroValue24
  t46 := Tryz.underlying108
  a46 := Tryz.isAgg108
  z46 := Tryz.sizeOf108
  v46 := Tryz.zeroValue108
  t51 := Tryz.underlying118
  a51 := Tryz.isAgg118
  z51 := Tryz.sizeOf118
  v51 := Tryz.zeroValue118
  t53 := Tryz.underlying120
  a53 := Tryz.isAgg120
  z53 := Tryz.sizeOf120
  v53 := Tryz.zeroValue120
  t131 := Tryz.underlying103
  a131 := Tryz.isAgg103
  z131 := Tryz.sizeOf103
  v131 := Tryz.zeroValue103
  t182 := Tryz.underlying111
  a182 := Tryz.isAgg111
  z182 := Tryz.sizeOf111
  v182 := Tryz.zeroValue111
  t183 := Tryz.underlying112
  a183 := Tryz.isAgg112
  z183 := Tryz.sizeOf112
  v183 := Tryz.zeroValue112
  t218 := Tryz.underlying125
  a218 := Tryz.isAgg125
  z218 := Tryz.sizeOf125
  v218 := Tryz.zeroValue125
  t222 := Tryz.underlying129
  a222 := Tryz.isAgg129
  z222 := Tryz.sizeOf129
  v222 := Tryz.zeroValue129
  t228 := Tryz.underlying131
  a228 := Tryz.isAgg131
  z228 := Tryz.sizeOf131
  v228 := Tryz.zeroValue131
  t229 := Tryz.underlying132
  a229 := Tryz.isAgg132
  z229 := Tryz.sizeOf132
  v229 := Tryz.zeroValue132 }
def Tryz.lays2n15_ren : Go.Shelf.Ren := ⟨fun | 15 => 125 | n => n, fun | 22 => 24 | 3 => 3 | 4 => 4 | n => n, fun | n => n⟩
set_option maxRecDepth 100000 in
theorem Tryz.lays2n15 : Go.Proofs.Lays2.n15 Tryz.prog Tryz.lays2n15_ren := {
  mixed := by kernel_rfl
  f15 := Tryz.func125.trans (congrArg some (by kernel_rfl))
  t3 := Tryz.underlying3
  a3 := Tryz.isAgg3
  z3 := Tryz.sizeOf3
  v3 := Tryz.zeroValue3
  t4 := Tryz.underlying4
  a4 := Tryz.isAgg4
  z4 := Tryz.sizeOf4
  v4 := Tryz.zeroValue4
  t22 := Tryz.underlying24
  a22 := Tryz.isAgg24
  z22 := Tryz.sizeOf24
  v22 := Tryz.zeroValue24
  i3 := by kernel_rfl }
end Go.Proofs
namespace Go.Proofs.YthncdjcmlpiebaaGreat
open Go.RowKit
set_option maxRecDepth 100000 in
theorem slSort_any (g n c base : Nat) (xs : List Int) (w : World) (hown : OwnI w base (some ⟨g, 0, none⟩) n c xs) (hn : n ≤ 1048576) :
    Calls Tryz.prog 145 #[.slice (some ⟨g, 0, none⟩) n c] w fun e w' => e = .returned (.tuple #[]) ∧ OwnI w' base (some ⟨g, 0, none⟩) n c (sortI xs) ∧ w.grownBy w' (some g) := by
  have hl := hown.len
  rcases hown.2 with ⟨hv, _⟩ | ⟨g', cap, cur, hv, hg, hb, h1, h2, h3, h4⟩
  · injection hv with hv; cases hv
  · injection hv with e1 e2 e3
    injection e1 with e1
    injection e1 with e1
    subst e1 e3
    have h4' : cur.toList.take xs.length = xs.map (Value.int .i64) := by rw [hl]; simpa using h4
    have hlt : g < w.heap.size := (Array.getElem?_eq_some_iff.1 hb).1
    have hcon := Any.slices_Sort_int Tryz.lays189 g 0 c xs w (holds_of_blockI hb h4') hlt (by omega)
    rw [hl] at hcon
    refine (show Calls Tryz.prog 145 #[.slice (some ⟨g, 0, none⟩) n c] w _ from hcon).mono ?_
    rintro e w' ⟨rfl, q, os, rfl⟩
    refine ⟨rfl, ?_, grownBy_sortedI _⟩
    have := ownsRow_sortedI (w := w) (base := base) (g := g) (cap := c) (n := q) (e := 3) (os := os) (ss := xs) (ts := sortI xs) (sortI_len xs) hg hb (by omega) h2 h3
    rw [hl] at this
    exact this
set_option maxRecDepth 100000 in
theorem slSort_zero (A : Option Addr) (c : Nat) (w : World) :
    Calls Tryz.prog 145 #[.slice A 0 c] w fun e w' => e = .returned (.tuple #[]) ∧ w' = w :=
  Any.slices_Sort_int_none Tryz.lays189 A c w
set_option maxRecDepth 100000 in
theorem sorted_any (A : Option Addr) (n c : Nat) (xs : List Int) (w : World) (hA : RI w A n xs) (hn : n ≤ 1048576) :
    Calls Tryz.prog 96 #[.slice A n c] w fun e w' => ∃ A1 c1, e = .returned (.slice A1 n c1) ∧ OwnI w' w.heap.size A1 n c1 (sortI xs) ∧ Below w.heap.size w w' := by
  rcases Nat.eq_zero_or_pos n with rfl | h0
  · have hx : xs = [] := List.eq_nil_of_length_eq_zero hA.1
    have HS := Lib.hid (show sortI xs = [] by rw [hx]; exact List.eq_nil_of_length_eq_zero (sortI_len []))
    rw [HS.out]
    rcases A with _ | ad
    · go_enter Tryz.func96, Tryz.ntmps96
      go_wp2_with fail
      refine (Any.slices_Clone_int_nil Tryz.lays2n15 0 c w).mono ?_
      rintro e w1 ⟨rfl, rfl⟩
      go_wp2_with fail
      refine (slSort_zero none 0 _).mono ?_
      rintro e w2 ⟨rfl, rfl⟩
      go_wp2
      go_ret
      exact ⟨none, 0, rfl, OwnI.nil_ _ _, Below.refl _ _⟩
    · go_enter Tryz.func96, Tryz.ntmps96
      go_wp2_with fail
      refine (Any.slices_Clone_int_zero Tryz.lays2n15 ad c w).mono ?_
      rintro e w1 ⟨v, rfl, hown, hne, hb1⟩
      obtain ⟨A1, c1, rfl⟩ : ∃ A1 c1, v = .slice A1 0 c1 := by
        rcases hown.2 with ⟨hv, _⟩ | ⟨g, cap, cur, hv, _⟩
        · exact absurd hv hne
        · exact ⟨_, _, hv⟩
      have hown1 : OwnI w1 w.heap.size A1 0 c1 [] := hown
      clear hown hne
      go_wp2_with fail
      refine (slSort_zero A1 c1 _).mono ?_
      rintro e w2 ⟨rfl, rfl⟩
      go_wp2
      go_ret
      exact ⟨A1, c1, rfl, hown1, hb1⟩
  · obtain ⟨bd, rfl, _, _⟩ := hA.addr h0
    go_enter Tryz.func96, Tryz.ntmps96
    go_wp2_with fail
    refine (slClone_any bd n c xs w hA h0 hn).mono ?_
    rintro e w1 ⟨g, c1, rfl, hown, hb1⟩
    have hsz : w.heap.size ≤ w1.heap.size := hb1.size
    have hge := (hown.block g rfl).1
    go_wp2_with fail
    refine (slSort_any g n c1 w.heap.size xs w1 hown hn).mono ?_
    rintro e w2 ⟨rfl, hown2, hg2⟩
    have hb2 : Below w.heap.size w w2 := hb1.grown hg2 hsz fun k hk => by injection hk with hk; omega
    go_wp2
    go_ret
    exact ⟨_, c1, rfl, hown2, hb2⟩
end Go.Proofs.YthncdjcmlpiebaaGreat
namespace Go.Proofs.YthncdjcmlpiebaaGreat
open Go.RowKit
set_option maxRecDepth 100000 in
theorem RI.ints_at {w : World} {A : Option Addr} {m k : Nat} {o : List Nat} (h : RI w A m (ints o)) (hk : k < m) : ∃ ad, A = some ad ∧ w.cell? (ad.add k) = some (.int .i64 (nb o k)) := by
  obtain ⟨a, e, _, hc⟩ := h.at_ hk
  rw [ints_nb] at hc
  exact ⟨a, e, hc⟩
set_option maxRecDepth 100000 in
set_option maxHeartbeats 1000000 in
theorem follow_any (A : Option Addr) (m c : Nat) (o : List Nat) (w : World) (hL : RI w A m (ints o)) (ho : ∀ x ∈ o, x < 2 ^ 7) (hm : m ≤ 9223372036854775807) :
    Calls Tryz.prog 98 #[.slice A m c] w fun e w' => e = .returned (.bool (fol o)) ∧ w = w' := by
  have HX := Lib.hid (show o.length = m by rw [← hL.1, ints_len])
  have HS := Lib.hid (seenK_lt ho)
  have HLa := Lib.hid (lastK_lt ho)
  have HB := Lib.hid (nb_lt_all (Nat.two_pow_pos 7) ho)
  clear ho
  go_enter Tryz.func98, Tryz.ntmps98
  go_wp2
  go_loop [3, 4, 9] (fun s l i => ∃ k : Nat, k ≤ m ∧ i = .int .i64 k ∧ s = .int .i64 (seenK o k : Nat) ∧ l = .int .i64 (lastK o k : Nat) ∧ Hid (∀ j, j < k → folAt o j = true)) (fun _ _ i => m - (intOf i).toNat)
  case atStart => exact ⟨0, Nat.zero_le _, rfl, rfl, rfl, fun j h => absurd h (by omega)⟩
  case round =>
    obtain ⟨k, hk, rfl, rfl, rfl, hall⟩ := hrel
    by_cases hlt : k < m
    · obtain ⟨a, rfl, hca⟩ := hL.ints_at hlt
      have hs7 : seenK o k < 128 := HS.out k
      have hl7 : lastK o k < 128 := HLa.out k
      have hx7 : nb o k < 128 := HB.out k
      have HE := Lib.hid (show folAt o k = (dif (nb o k &&& seenK o k) (lastK o k) == 0) ∧ seenK o (k + 1) = seenK o k ||| nb o k ∧ lastK o (k + 1) = nb o k from ⟨rfl, rfl, rfl⟩)
      obtain ⟨s, hs⟩ : ∃ s, s = seenK o k := ⟨_, rfl⟩
      obtain ⟨l, hl⟩ : ∃ l, l = lastK o k := ⟨_, rfl⟩
      obtain ⟨x, hx⟩ : ∃ x, x = nb o k := ⟨_, rfl⟩
      rw [← hs, ← hl, ← hx] at HE
      rw [← hs] at hs7
      rw [← hl] at hl7
      rw [← hx] at hx7 hca
      have hand := i64_and7 hx7 hs7
      have hy7 : x &&& s < 128 := Nat.lt_of_le_of_lt Nat.and_le_left hx7
      obtain ⟨y, hy⟩ : ∃ y, y = x &&& s := ⟨_, rfl⟩
      rw [← hy] at hand hy7 HE
      have hdif := i64_dif7 hy7 hl7
      have hor := i64_or7 hs7 hx7
      obtain ⟨z, hz⟩ : ∃ z, z = dif y l := ⟨_, rfl⟩
      obtain ⟨s', hs'⟩ : ∃ s', s' = s ||| x := ⟨_, rfl⟩
      rw [← hz] at hdif HE
      rw [← hs'] at hor HE
      rw [← hs, ← hl]
      clear hs hl hx hy hz hs'
      by_cases e : z = 0
      · have h1 : ((z : Int) != 0) = false := by rw [e]; rfl
        have HA := Lib.hid (show folAt o k = true by rw [HE.out.1, e]; rfl)
        clear e
        go_wp2
        go_round
        case rel => exact ⟨k + 1, by omega, by go_num, by rw [HE.out.2.1], by rw [HE.out.2.2], fun j hj => by
          rcases Nat.lt_succ_iff_lt_or_eq.1 hj with h' | rfl
          · exact hall.out j h'
          · exact HA.out⟩
        case measure => simp [intOf]; omega
      · have h1 : ((z : Int) != 0) = true := by rw [bne_iff_ne]; omega
        have HA := Lib.hid (fol_false (l := o) (k := k) (by rw [HX.out]; exact hlt) (by rw [HE.out.1, beq_eq_false_iff_ne]; exact e))
        clear e
        go_wp2
        go_ret
        exact ⟨ret_bool HA.out.symm, rfl⟩
    · obtain rfl : k = m := by omega
      have HR := Lib.hid (fol_true (l := o) (by rw [HX.out]; exact hall.out))
      go_wp2
      go_ret
      exact ⟨ret_bool HR.out.symm, rfl⟩
set_option maxRecDepth 100000 in
theorem follow_is {A : Option Addr} {m c : Nat} {o : List Nat} {w : World} {b : Bool} (hL : RI w A m (ints o)) (ho : ∀ x ∈ o, x < 2 ^ 7) (hm : m ≤ 9223372036854775807) (hb : fol o = b) :
    Calls Tryz.prog 98 #[.slice A m c] w fun e w' => e = .returned (.bool b) ∧ w = w' := by
  subst hb; exact follow_any A m c o w hL ho hm
set_option maxRecDepth 100000 in
set_option maxHeartbeats 1000000 in
theorem consec_any (A : Option Addr) (m c : Nat) (o : List Nat) (w : World) (hL : RI w A m (ints o)) (ho : ∀ x ∈ o, x < 2 ^ 7) (hm : m ≤ 9223372036854775806) :
    Calls Tryz.prog 120 #[.slice A m c] w fun e w' => e = .returned (.bool (fol o)) ∧ w = w' := by
  have HX := Lib.hid (show o.length = m by rw [← hL.1, ints_len])
  have HB := Lib.hid (nb_lt_all (Nat.two_pow_pos 7) ho)
  have HC := Lib.hid (show consec o = fol o from fol_consec ho)
  clear ho
  go_enter Tryz.func120, Tryz.ntmps120
  go_wp2
  go_loop [3] (fun i => ∃ v : Nat, v ≤ 7 ∧ i = .int .i64 v ∧ Hid (∀ u, u < v → bg o u m ≤ 1)) (fun i => 7 - (intOf i).toNat)
  case atStart => exact ⟨0, Nat.zero_le _, rfl, fun j h => absurd h (by omega)⟩
  case round =>
    obtain ⟨v, hv, rfl, hall⟩ := hrel
    by_cases hvt : v < 7
    · go_wp2
      go_loop [4, 5] (fun s i => ∃ k : Nat, k ≤ m ∧ i = .int .i64 k ∧ s = .int .i64 (bg o v k : Nat) ∧ bg o v k ≤ k) (fun _ i => m - (intOf i).toNat)
      case atStart => exact ⟨0, Nat.zero_le _, rfl, rfl, Nat.le_refl _⟩
      case round =>
        obtain ⟨k, hk, rfl, rfl, hle⟩ := hrel
        by_cases hlt : k < m
        · obtain ⟨a, rfl, hca⟩ := hL.ints_at hlt
          have hx7 : nb o k < 128 := HB.out k
          have HY := Lib.hid (bg_yes (l := o) (v := v) (k := k))
          have HN := Lib.hid (bg_no (l := o) (v := v) (k := k))
          have HA := Lib.hid (show begAt o v k = ((nb o k).testBit v && !(lastK o k).testBit v) from rfl)
          have HL := Lib.hid (bg_le o v (k + 1))
          obtain ⟨g, hg⟩ : ∃ g, g = bg o v k := ⟨_, rfl⟩
          obtain ⟨x, hx⟩ : ∃ x, x = nb o k := ⟨_, rfl⟩
          rw [← hx] at HA hx7 hca
          rw [← hg] at HY HN hle ⊢
          clear hx hg
          have hb := bit_one x v (by omega)
          rcases Bool.eq_false_or_eq_true (x.testBit v) with e1 | e1
          · rw [e1] at hb
            rcases Nat.eq_zero_or_pos k with hk0 | hk0
            · have HR := Lib.hid (HY.out (by rw [HA.out, e1, hk0]; simp [lastK]))
              have z0 : ((k : Int) == 0) = true := by rw [beq_iff_eq]; omega
              clear e1 hk0
              go_wp2
              go_round
              case rel => exact ⟨k + 1, by omega, by go_num, by rw [HR.out]; go_num, by rw [HR.out]; omega⟩
              case measure => simp [intOf]; omega
            · have z0 : ((k : Int) == 0) = false := by rw [beq_eq_false_iff_ne]; omega
              obtain ⟨p, hp⟩ : ∃ p, p = k - 1 := ⟨_, rfl⟩
              obtain ⟨a', ha', hcp⟩ := hL.ints_at (show p < m by omega)
              injection ha' with ha'
              subst ha'
              have hy7 : nb o p < 128 := HB.out p
              have HLK := Lib.hid (show lastK o k = nb o p by
                obtain ⟨j, rfl⟩ : ∃ j, k = j + 1 := ⟨k - 1, by omega⟩
                rw [hp]; rfl)
              obtain ⟨y, hy⟩ : ∃ y, y = nb o p := ⟨_, rfl⟩
              rw [← hy] at hcp hy7 HLK
              rw [hp] at hcp
              clear hy hp
              have hb2 := bit_zero y v (by omega)
              rcases Bool.eq_false_or_eq_true (y.testBit v) with e2 | e2
              · rw [e2] at hb2
                have HR := Lib.hid (HN.out (by rw [HA.out, e1, HLK.out, e2]; rfl))
                clear e1 e2
                go_wp2
                go_round
                case rel => exact ⟨k + 1, by omega, by go_num, by rw [HR.out], by rw [HR.out]; omega⟩
                case measure => simp [intOf]; omega
              · rw [e2] at hb2
                have HR := Lib.hid (HY.out (by rw [HA.out, e1, HLK.out, e2]; rfl))
                clear e1 e2
                go_wp2
                go_round
                case rel => exact ⟨k + 1, by omega, by go_num, by rw [HR.out]; go_num, by rw [HR.out]; omega⟩
                case measure => simp [intOf]; omega
          · rw [e1] at hb
            have HR := Lib.hid (HN.out (by rw [HA.out, e1]; rfl))
            clear e1
            go_wp2
            go_round
            case rel => exact ⟨k + 1, by omega, by go_num, by rw [HR.out], by rw [HR.out]; omega⟩
            case measure => simp [intOf]; omega
        · obtain rfl : k = m := by omega
          by_cases hg : bg o v k ≤ 1
          · have hd : decide (1 < (bg o v k : Int)) = false := decide_eq_false (by omega)
            have HG := Lib.hid hg
            clear hg
            go_wp2
            go_round
            case rel => exact ⟨v + 1, by omega, by go_num, fun u hu => by
              rcases Nat.lt_succ_iff_lt_or_eq.1 hu with h' | rfl
              · exact hall.out u h'
              · exact HG.out⟩
            case measure => simp [intOf]; omega
          · have hd : decide (1 < (bg o v k : Int)) = true := decide_eq_true (by omega)
            have HR := Lib.hid (HC.out ▸ consec_false (l := o) hvt (by rw [HX.out]; omega) : fol o = false)
            clear hg
            go_wp2
            go_ret
            exact ⟨ret_bool HR.out.symm, rfl⟩
    · obtain rfl : v = 7 := by omega
      have HR := Lib.hid (HC.out ▸ consec_true (l := o) (by rw [HX.out]; exact hall.out) : fol o = true)
      go_wp2
      go_ret
      exact ⟨ret_bool HR.out.symm, rfl⟩
set_option maxRecDepth 100000 in
theorem consec_is {A : Option Addr} {m c : Nat} {o : List Nat} {w : World} {b : Bool} (hL : RI w A m (ints o)) (ho : ∀ x ∈ o, x < 2 ^ 7) (hm : m ≤ 9223372036854775806) (hb : fol o = b) :
    Calls Tryz.prog 120 #[.slice A m c] w fun e w' => e = .returned (.bool b) ∧ w = w' := by
  subst hb; exact consec_any A m c o w hL ho hm
end Go.Proofs.YthncdjcmlpiebaaGreat
namespace Go.Proofs.YthncdjcmlpiebaaGreat
open Go.RowKit
set_option maxRecDepth 100000 in
theorem head_cons {xs ys : List (List Nat)} (h : 0 < xs.length) : (xs ++ ys).head?.getD [] = xs.head?.getD [] := by
  rcases xs with _ | ⟨a, t⟩
  · simp at h
  · rfl
set_option maxRecDepth 100000 in
theorem stepO {xs ys : List (List Nat)} {nk most r : Nat} (h : xs.length = nk) (hn : nk < most) (hr : r = most - nk) : nk + min ys.length r = min (xs ++ ys).length most := by
  rw [List.length_append, h, hr]; omega
/-- What the reference's search gives: the first order, and how many there are, up to most. -/
def GivesO (os : List (List Nat)) (most base : Nat) (w : World) (e : Ending) (w' : World) : Prop :=
  ∃ A c, e = .returned (.tuple #[.slice A (os.head?.getD []).length c, .int .i64 (min os.length most : Nat)]) ∧ OwnI w' base A (os.head?.getD []).length c (ints (os.head?.getD [])) ∧ Below w.heap.size w w'
def cliqOrds (N : Int) (X : List Int) : List (List Nat) := if (elimOf N X).isSome then ords (maxCliquesOf N X) (maxCliquesOf N X).length [] else []
set_option maxRecDepth 100000 in
theorem cliqOrds_no {N : Int} {X : List Int} (h : (elimOf N X).isSome = false) : cliqOrds N X = [] := by rw [cliqOrds, h]; rfl
set_option maxRecDepth 100000 in
theorem cliqOrds_yes {N : Int} {X : List Int} (h : (elimOf N X).isSome = true) : cliqOrds N X = ords (maxCliquesOf N X) (maxCliquesOf N X).length [] := by rw [cliqOrds, if_pos h]
set_option maxRecDepth 100000 in
/-- A chordal graph is a graph, and has cliques. -/
theorem chordal_cases {N : Int} {X : List Int} (h : (elimOf N X).isSome = true) : ∃ (n : Nat) (Q : List Nat), N = n ∧ X = ints Q ∧ GOk n Q ∧ maxCliquesOf N X = maxCliques Q n := by
  rcases isGraph_cases N X with hg | ⟨k, Q, rfl, rfl, hk⟩
  · rw [elimOf_no hg] at h; cases h
  · exact ⟨k, Q, rfl, rfl, hk, maxCliquesOf_ok hk⟩
set_option maxRecDepth 100000 in
theorem cliques_ok {N : Int} {X : List Int} (h : (elimOf N X).isSome = true) : (∀ x ∈ maxCliquesOf N X, x < 2 ^ 7) ∧ 0 < (maxCliquesOf N X).length ∧ (maxCliquesOf N X).length ≤ 128 := by
  obtain ⟨n, Q, rfl, rfl, hk, e⟩ := chordal_cases h
  rw [e]
  exact ⟨fun x hx => hk.n7 (maxCliques_lt hx), maxCliques_pos hk, maxCliques_len Q hk.le⟩
set_option maxRecDepth 100000 in
set_option maxHeartbeats 4000000 in
theorem l10Search_any (m ca : Nat) (A : Option Addr) (L : List Nat) (hLm : L.length = m) (hL7 : ∀ x ∈ L, x < 2 ^ 7) (hm : m ≤ 128) (base : Nat) : ∀ (f : Nat) (d : List Nat) (bd : Addr) (c most : Nat) (w : World), d.length + f = m → (∀ x ∈ d, x < 2 ^ 7) → 1 ≤ most → most ≤ 1000 → OwnI w base (some bd) d.length c (ints d) → base ≤ w.heap.size → RI w A m (ints L) →
    Calls Tryz.prog 92 #[.slice A m ca, .slice (some bd) d.length c, .int .i64 most] w (GivesO (ords L f d) most base w) := by
  intro f
  induction f with
  | zero =>
    intro d bd c most w hf hd hm1 hm2 hown hbase hA
    have heq : ((d.length : Int) == (m : Int)) = true := by rw [beq_iff_eq]; omega
    have hmin : min [d].length most = 1 := by simp; omega
    have HM := Lib.hid hmin
    clear hmin hd hf
    go_enter Tryz.func92, Tryz.ntmps92
    go_wp2
    go_ret2
    exact ⟨some bd, c, by rw [ords, HM.out]; rfl, hown, Below.refl _ _⟩
  | succ f ih =>
    intro d bd c most w hf hd hm1 hm2 hown hbase hA
    have hne : ((d.length : Int) == (m : Int)) = false := by rw [beq_eq_false_iff_ne]; omega
    have Ih := Lib.hid ih
    have Hd := Lib.hid hd
    have HALL := Lib.hid (show ordsK L f d m = ords L (f + 1) d by rw [← hLm]; exact ords_all L f d)
    have HPRE := Lib.hid (fun k => ordsK_pre L f d (k := k) m)
    have HB := Lib.hid (nb_lt_all (Nat.two_pow_pos 7) hL7)
    clear ih hd hL7
    have hown00 := OwnI.made (base := w.heap.size) w (Nat.le_refl _)
    go_enter Tryz.func92, Tryz.ntmps92
    go_wp2_with fail
    go_loopw [8, 9, 10] (fun s nn i wr => ∃ (k nk : Nat) (A1 : Option Addr) (c1 : Nat) (q : List Nat), k ≤ m ∧ i = .int .i64 k ∧ nn = .int .i64 (nk : Nat) ∧ s = .slice A1 q.length c1 ∧ OwnI wr base A1 q.length c1 (ints q) ∧ Below w.heap.size w wr ∧ nk ≤ most ∧ Hid (nk = min (ordsK L f d k).length most ∧ q = (ordsK L f d k).head?.getD [])) (fun _ _ i _ => m - (intOf i).toNat)
    case atStart => exact ⟨0, 0, some ⟨w.heap.size, 0, none⟩, 0, [], Nat.zero_le _, rfl, rfl, rfl, hown00.more hbase, by go_grown, Nat.zero_le _, by simp [ordsK], rfl⟩
    case round =>
      clear hown00
      obtain ⟨k, nk, A1, c1, q, hk, rfl, rfl, rfl, hownq, hb, hnk, hH⟩ := hrel
      obtain ⟨wo, rfl⟩ : ∃ wo : World, wo = wr := ⟨_, rfl⟩
      by_cases hkt : k < m
      · by_cases hnt : nk < most
        · have d1 : decide ((nk : Int) < (most : Int)) = true := decide_eq_true (by omega)
          have HLEN := Lib.hid (show (ordsK L f d k).length = nk by have := hH.out.1; omega)
          have hArr := hA.up hb
          obtain ⟨a, rfl, hca⟩ := hArr.ints_at hkt
          have habs : a.block < wo.heap.size := by have := World.block_lt_of_cell? wo _ hca; rwa [block_of_add] at this
          have hx7 : nb L k < 128 := HB.out k
          have HOFF := Lib.hid (ordsK_off (L := L) (f := f) (k := k) (l := d))
          have HON := Lib.hid (ordsK_on (L := L) (f := f) (k := k) (l := d))
          have HMAY := Lib.hid (show mayC d (nb L k) = (!decide (nb L k ∈ d) && fol (d ++ [nb L k])) from rfl)
          obtain ⟨x, hx⟩ : ∃ x, x = nb L k := ⟨_, rfl⟩
          rw [← hx] at hca hx7 HMAY
          have HX := Lib.hid hx
          clear hx
          have hownr := hown.up hb
          rcases Bool.eq_false_or_eq_true (decide (x ∈ d)) with e1 | e1
          · have HO := Lib.hid (HOFF.out (by rw [← HX.out, HMAY.out, e1]; rfl))
            rw [← dec_mem] at e1
            have E1 := Lib.hid e1
            clear e1
            go_wp2_with fail
            refine (l8Has_is hownr.ri (by omega) E1.out).mono ?_
            rintro e w3 ⟨rfl, rfl⟩
            go_wp2
            go_roundw
            case rel => exact ⟨k + 1, nk, A1, c1, q, by omega, by go_num, rfl, rfl, hownq, hb, hnk, by rw [HO.out]; exact hH.out⟩
            case measure => simp [intOf]; omega
          · have HNI := Lib.hid e1
            rw [← dec_mem] at e1
            have E1 := Lib.hid e1
            clear e1
            have hE := OwnI.made (base := wo.heap.size) wo (Nat.le_refl _)
            have hdl : d.length ≤ 1048576 := by omega
            have hdm : d.length + 1 ≤ 9223372036854775806 := by omega
            have hfx : d.length + 1 + f = m := by omega
            have hbo : base ≤ wo.heap.size := Nat.le_trans hbase hb.size
            have HLen := Lib.hid (show (d ++ [x]).length = d.length + 1 from push_len.symm)
            have Hdx := Lib.hid (show ∀ y ∈ d ++ [x], y < 2 ^ 7 from fun y hy => by
              rcases List.mem_append.1 hy with hy | hy
              · exact Hd.out y hy
              · obtain rfl : y = x := by simpa using hy
                exact hx7)
            have hdl1 : d.length + 1 ≤ 1048576 := by omega
            go_wp2_with fail
            refine (l8Has_is hownr.ri (by omega) E1.out).mono ?_
            rintro e w3 ⟨rfl, rfl⟩
            go_wp2_with fail
            have hcA : ∀ o, (wo.alloc o).cell? (a.add k) = some (.int .i64 (x : Int)) := fun o => (World.cell?_alloc_lt wo o _ (by rw [block_of_add]; exact habs)).trans hca
            have hE2 := (hE.alloc (.cells #[.int .i64 (x : Int)] 3)).drew
            have hE3 : OwnI ((wo.alloc (.cells #[.int .i64 (x : Int)] 3)).alloc (.cells #[] 3)).drew wo.heap.size (some ⟨wo.heap.size + 1, 0, none⟩) 0 0 [] := (OwnI.made_at (by simp) (by omega)).drew
            have hX2 : Blk ((wo.alloc (.cells #[] 3)).alloc (.cells #[.int .i64 (x : Int)] 3)).drew (wo.heap.size + 1) 3 #[.int .i64 (x : Int)] := (Blk.new_at (by simp)).drew
            have hX3 : Blk ((wo.alloc (.cells #[.int .i64 (x : Int)] 3)).alloc (.cells #[] 3)).drew wo.heap.size 3 #[.int .i64 (x : Int)] := ((Blk.new wo 3 _).alloc _).drew
            have hD1 := (hownr.ri.alloc (.cells #[] 3)).drew
            have hD2 := ((hownr.ri.alloc (.cells #[] 3)).alloc (.cells #[.int .i64 (x : Int)] 3)).drew
            have hD3 := ((hownr.ri.alloc (.cells #[.int .i64 (x : Int)] 3)).alloc (.cells #[] 3)).drew
            replace hE := hE.drew
            go_region_law (first
              | (refine step_append_new rfl (.tmp 38) (.tmp 39) rfl rfl hE rfl hD1 hdl (by simp) ?_; intro A3 c3 w3 hown3 hb3 hg3; have hX3' := (Blk.new w3 3 #[.int .i64 (x : Int)]).ri (xs := [(x : Int)]) rfl; have hO3 := hown3.alloc (.cells #[.int .i64 (x : Int)] 3); have hU3 : Up wo w3 := Below.trans (by go_grown) hb3; have hc3 := (hU3.cell (p := a.add k) (by rw [block_of_add]; exact habs)).trans hca)
              | (refine step_append_new rfl (.tmp 38) (.tmp 39) rfl rfl hE2 rfl hD2 hdl (by simp; omega) ?_; intro A3 c3 w3 hown3 hb3 hg3; have hX3' := (hX2.grown hg3 (by simp [Value.ownBlock])).ri (xs := [(x : Int)]) rfl; have hO3 := hown3; have hU3 : Up wo w3 := Below.trans (by go_grown) hb3; have hc3 := (hU3.cell (p := a.add k) (by rw [block_of_add]; exact habs)).trans hca)
              | (refine step_append_new rfl (.tmp 38) (.tmp 39) rfl rfl hE3 rfl hD3 hdl (by simp; omega) ?_; intro A3 c3 w3 hown3 hb3 hg3; have hX3' := (hX3.grown hg3 (by simp [Value.ownBlock])).ri (xs := [(x : Int)]) rfl; have hO3 := hown3; have hU3 : Up wo w3 := Below.trans (by go_grown) hb3; have hc3 := (hU3.cell (p := a.add k) (by rw [block_of_add]; exact habs)).trans hca)
              | (refine step_append_own rfl (.tmp 40) (.tmp 45) rfl rfl hO3 rfl hX3' hdl1 (by have := hU3.size; first | exact this | (simp; omega)) ?_; intro A4 c4 w4 hown4 hb4 hg4; have hU4 : Up wo w4 := by first | exact hU3.trans hb4 | exact (hU3.alloc hU3.size _).trans hb4))
            all_goals
              have hx4 : OwnI w4 wo.heap.size A4 (d.length + 1) c4 (ints (d ++ [x])) := hown4.cast rfl (ints_app d x).symm
              obtain ⟨gx, rfl⟩ := hx4.form (by omega)
              have hw4 := Up.then_ hb hU4
              have hA4 := hA.up hw4
              have hownq4 := hownq.up hU4
              clear hE hE2 hE3 hX2 hX3 hD1 hD2 hD3 hown3 hb3 hg3 hX3' hO3 hc3 hown4 hb4 hg4 hca hcA hU3 hArr
              rcases Bool.eq_false_or_eq_true (fol (d ++ [x])) with e2 | e2
              · have E2 := Lib.hid e2
                have HO := Lib.hid (HON.out (by rw [← HX.out, HMAY.out, HNI.out, e2]; rfl))
                rw [← HX.out] at HO
                clear e2
                obtain ⟨r, hr⟩ : ∃ r, r = most - nk := ⟨_, rfl⟩
                have hr' : (most : Int) - nk = (r : Int) := by omega
                have hr1 : 1 ≤ r := by omega
                have hr2 : r ≤ 1000 := by omega
                have HR := Lib.hid hr
                have hih := Ih.out (d ++ [x]) ⟨gx, 0, none⟩ c4 r w4 (by rw [HLen.out]; exact hfx) Hdx.out hr1 hr2 (hx4.more hbo |>.cast HLen.out.symm rfl) (Nat.le_trans hbase hw4.size) hA4
                rw [HLen.out] at hih
                clear hr hr1 hr2
                go_wp2_with (go_at_call 120; refine (consec_is hx4.ri Hdx.out hdm E2.out).mono ?_; rintro e w5 ⟨rfl, rfl⟩)
                clear hr'
                refine hih.mono ?_
                clear hih
                rintro e w6 ⟨A6, c6, rfl, hown6, hb6⟩
                have hw6 := Up.then_ hw4 hb6
                replace hownq4 := hownq4.up hb6
                obtain ⟨os, hos⟩ : ∃ os, os = ords L f (d ++ [x]) := ⟨_, rfl⟩
                rw [← hos] at HO hown6 ⊢
                clear hos
                obtain ⟨q2, hq2⟩ : ∃ q2, q2 = os.head?.getD [] := ⟨_, rfl⟩
                rw [← hq2] at hown6 ⊢
                obtain ⟨kk, hkk⟩ : ∃ kk, kk = min os.length r := ⟨_, rfl⟩
                rw [← hkk]
                have HN := Lib.hid (show nk + kk = min (ordsK L f d k ++ os).length most by rw [hkk]; exact stepO HLEN.out hnt HR.out)
                have HKK := Lib.hid hkk
                have HQ2 := Lib.hid hq2
                have hnk2 : nk + kk ≤ most := by rw [HN.out]; exact Nat.min_le_right _ _
                clear hkk hq2
                by_cases hk0 : kk = 0
                · have z1 : ¬ 0 < kk := by omega
                  have HQ := Lib.hid (show q = (ordsK L f d (k + 1)).head?.getD [] by
                    have : os = [] := List.eq_nil_of_length_eq_zero (by have h1 := HKK.out; have h2 := HR.out; omega)
                    rw [HO.out, this, List.append_nil]; exact hH.out.2)
                  clear hk0
                  go_wp2
                  go_roundw
                  case rel => exact ⟨k + 1, nk + kk, A1, c1, q, by omega, by go_num, by go_num, rfl, hownq4, hw6, hnk2, by rw [HO.out]; exact HN.out, HQ.out⟩
                  case measure => simp [intOf]; omega
                · have z1 : 0 < kk := by omega
                  by_cases hn0 : nk = 0
                  · have z2 : ((nk : Int) == 0) = true := by rw [beq_iff_eq]; omega
                    have HQ := Lib.hid (show q2 = (ordsK L f d (k + 1)).head?.getD [] by
                      have : ordsK L f d k = [] := List.eq_nil_of_length_eq_zero (by have h1 := HLEN.out; omega)
                      rw [HO.out, this, List.nil_append]; exact HQ2.out)
                    clear hk0 hn0
                    go_wp2
                    go_roundw
                    case rel => exact ⟨k + 1, nk + kk, A6, c6, q2, by omega, by go_num, by go_num, rfl, hown6, hw6, hnk2, by rw [HO.out]; exact HN.out, HQ.out⟩
                    case measure => simp [intOf]; omega
                  · have z2 : ((nk : Int) == 0) = false := by rw [beq_eq_false_iff_ne]; omega
                    have HQ := Lib.hid (show q = (ordsK L f d (k + 1)).head?.getD [] by
                      rw [HO.out, head_cons (by rw [HLEN.out]; omega)]; exact hH.out.2)
                    clear hk0 hn0
                    go_wp2
                    go_roundw
                    case rel => exact ⟨k + 1, nk + kk, A1, c1, q, by omega, by go_num, by go_num, rfl, hownq4, hw6, hnk2, by rw [HO.out]; exact HN.out, HQ.out⟩
                    case measure => simp [intOf]; omega
              · have E2 := Lib.hid e2
                have HO := Lib.hid (HOFF.out (by rw [← HX.out, HMAY.out, HNI.out, e2]; rfl))
                clear e2
                go_wp2_with (go_at_call 120; refine (consec_is hx4.ri Hdx.out hdm E2.out).mono ?_; rintro e w5 ⟨rfl, rfl⟩)
                go_roundw
                case rel => exact ⟨k + 1, nk, A1, c1, q, by omega, by go_num, rfl, rfl, hownq4, hw4, hnk, by rw [HO.out]; exact hH.out⟩
                case measure => simp [intOf]; omega
        · have d1 : decide ((nk : Int) < (most : Int)) = false := decide_eq_false (by omega)
          have HR := Lib.hid (show min (ords L (f + 1) d).length most = nk ∧ (ords L (f + 1) d).head?.getD [] = q by
            obtain ⟨r, e⟩ := HPRE.out k hk
            have h1 := hH.out.1
            rw [← HALL.out, e, head_cons (by omega), hH.out.2, List.length_append]
            exact ⟨by omega, rfl⟩)
          go_wp2
          go_ret2
          exact ⟨A1, c1, by rw [HR.out.1, HR.out.2]; rfl, by rw [HR.out.2]; exact hownq, hb⟩
      · obtain rfl : k = m := by omega
        have HR := Lib.hid (show min (ords L (f + 1) d).length most = nk ∧ (ords L (f + 1) d).head?.getD [] = q by
          rw [← HALL.out]; exact ⟨hH.out.1.symm, hH.out.2.symm⟩)
        go_wp2
        go_ret2
        exact ⟨A1, c1, by rw [HR.out.1, HR.out.2]; rfl, by rw [HR.out.2]; exact hownq, hb⟩
set_option maxRecDepth 100000 in
theorem implIsChordal_is {N : Int} {A : Option Addr} {n c : Nat} {X : List Int} {w : World} {b : Bool} (hX : RI w A n X) (hn : n ≤ 9223372036854775807) (hb : (elimOf N X).isSome = b) :
    Calls Tryz.prog 143 #[.agg #[.int .i64 N, .slice A n c]] w fun e w' => e = .returned (.bool b) ∧ Below w.heap.size w w' := by
  subst hb
  go_enter Tryz.func143, Tryz.ntmps143
  go_wp2_with fail
  refine (implEliminationOf_any N A n c X _ (hX.up (by go_grown)) hn).mono ?_
  rintro e w1 ⟨A1, c1, rfl, hown, hb1⟩
  have hU1 : Up w w1 := Up.then_ (by go_grown) hb1
  go_wp2
  go_ret
  exact ⟨rfl, hU1⟩
set_option maxRecDepth 100000 in
theorem specIsChordal_is {N : Int} {A : Option Addr} {n c : Nat} {X : List Int} {w : World} {b : Bool} (hX : RI w A n X) (hn : n ≤ 9223372036854775807) (hb : (elimOf N X).isSome = b) :
    Calls Tryz.prog 91 #[.agg #[.int .i64 N, .slice A n c]] w fun e w' => e = .returned (.bool b) ∧ Below w.heap.size w w' := by
  subst hb
  go_enter Tryz.func91, Tryz.ntmps91
  go_wp2_with fail
  refine (specEliminationOf_any N A n c X _ (hX.up (by go_grown)) hn).mono ?_
  rintro e w1 ⟨A1, c1, rfl, hown, hb1⟩
  have hU1 : Up w w1 := Up.then_ (by go_grown) hb1
  go_wp2
  go_ret
  exact ⟨rfl, hU1⟩
end Go.Proofs.YthncdjcmlpiebaaGreat
