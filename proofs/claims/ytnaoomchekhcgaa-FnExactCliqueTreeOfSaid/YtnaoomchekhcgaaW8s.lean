/- Sorting: the library's Sort and Compact on rows of the call's own, sorted (the program's), l8Sorted (the reference's). -/
import Derived.Test.YtnaoomchekhcgaaShp5
import Derived.Test.YtnaoomchekhcgaaPureSo
import Derived.Test.YtnaoomchekhcgaaSlc
import Derived.Test.YtnaoomchekhcgaaW12s
import Derived.Shelf.Sort.Plain
import Derived.Shelf.Slices.In.SortNone
import Derived.Shelf.Slices.Clone
import Derived.Shelf.Slices.CompactI
import Derived.Sort.OwnSortedInts
import Derived.Deep.RegionLaw
namespace Go.Proofs.Ytnaoomchekhcgaa
open Go.RowKit
theorem slSort_any (g n c base : Nat) (xs : List Int) (w : World) (hown : OwnI w base (some ⟨g, 0, none⟩) n c xs) (hn : n ≤ 1048576) :
    Calls Try.prog 90 #[.slice (some ⟨g, 0, none⟩) n c] w fun e w' => e = .returned (.tuple #[]) ∧ OwnI w' base (some ⟨g, 0, none⟩) n c (sortI xs) ∧ w.grownBy w' (some g) := by
  have hl := hown.len
  rcases hown.2 with ⟨hv, _⟩ | ⟨g', cap, cur, hv, hg, hb, h1, h2, h3, h4⟩
  · injection hv with hv; cases hv
  · injection hv with e1 e2 e3
    injection e1 with e1
    injection e1 with e1
    subst e1 e3
    have h4' : cur.toList.take xs.length = xs.map (Value.int .i64) := by rw [hl]; simpa using h4
    have hlt : g < w.heap.size := (Array.getElem?_eq_some_iff.1 hb).1
    have hcon := Any.slices_Sort_int Try.lays189 g 0 c xs w (holds_of_blockI hb h4') hlt (by omega)
    rw [hl] at hcon
    refine (show Calls Try.prog 90 #[.slice (some ⟨g, 0, none⟩) n c] w _ from hcon).mono ?_
    rintro e w' ⟨rfl, q, os, rfl⟩
    refine ⟨rfl, ?_, grownBy_sortedI _⟩
    have := ownsRow_sortedI (w := w) (base := base) (g := g) (cap := c) (n := q) (e := 3) (os := os) (ss := xs) (ts := sortI xs) (sortI_len xs) hg hb (by omega) h2 h3
    rw [hl] at this
    exact this
theorem slSort_zero (A : Option Addr) (c : Nat) (w : World) :
    Calls Try.prog 90 #[.slice A 0 c] w fun e w' => e = .returned (.tuple #[]) ∧ w' = w :=
  Any.slices_Sort_int_none Try.lays189 A c w
theorem compact_le (xs : List Int) : (Lib.compact xs).length ≤ xs.length := by
  unfold Lib.compact Lib.compactUpTo
  have := List.length_filter_le (Lib.keeps xs.toArray) (List.range xs.length)
  simpa using this
theorem slCompact_any (g n c base : Nat) (xs : List Int) (w : World) (hown : OwnI w base (some ⟨g, 0, none⟩) n c xs) (hn : n ≤ 1048576) :
    Calls Try.prog 61 #[.slice (some ⟨g, 0, none⟩) n c] w fun e w' => e = .returned (.slice (some ⟨g, 0, none⟩) (Lib.compact xs).length c) ∧ OwnI w' base (some ⟨g, 0, none⟩) (Lib.compact xs).length c (Lib.compact xs) ∧ w.grownBy w' (some g) := by
  have hl := hown.len
  rcases hown.2 with ⟨hv, _⟩ | ⟨g', cap, cur, hv, hg, hb, h1, h2, h3, h4⟩
  · injection hv with hv; cases hv
  · injection hv with e1 e2 e3
    injection e1 with e1
    injection e1 with e1
    subst e1 e3
    have h4' : cur.toList.take xs.length = xs.map (Value.int .i64) := by rw [hl]; simpa using h4
    have hcon := Any.slices_Compact_int Try.lays2n20 g 0 c xs w (holds_of_blockI hb h4') (by omega) (by omega)
    rw [hl] at hcon
    refine (show Calls Try.prog 61 #[.slice (some ⟨g, 0, none⟩) n c] w _ from hcon).mono ?_
    rintro e w' ⟨rfl, q, rfl⟩
    obtain ⟨zs, hzs⟩ : ∃ zs, zs = Lib.compact xs ++ List.replicate (n - (Lib.compact xs).length) (0 : Int) := ⟨_, rfl⟩
    rw [← hzs]
    have hkl : (Lib.compact xs).length ≤ n := by rw [← hl]; exact compact_le xs
    have hzl : zs.length = n := by rw [hzs, List.length_append, List.length_replicate]; omega
    have hcur : cur.size = c := by simpa using h3
    have hblk := heap_sortedI (n := q) (os := #[]) zs.toArray hb
    rw [Sort.grow_empty] at hblk
    have hgrown := grownBy_sortedI (w := w) (g := g) (n := q) (os := #[]) zs.toArray
    rw [Sort.grow_empty] at hgrown
    refine ⟨rfl, ⟨by simp, .inr ⟨g, c, _, rfl, hg, hblk, by omega, h2, by simp [Sort.putCells, hcur], ?_⟩⟩, hgrown⟩
    have ht := take_putCellsI cur zs (by omega)
    have h5 := congrArg (List.take (Lib.compact xs).length) ht
    rw [List.take_take, Nat.min_eq_left (by omega), ← List.map_take] at h5
    rw [Nat.mul_one, h5, hzs, List.take_left]
theorem slCompact_zero (A : Option Addr) (c : Nat) (w : World) :
    Calls Try.prog 61 #[.slice A 0 c] w fun e w' => e = .returned (.slice A 0 c) ∧ w' = w :=
  Any.slices_Compact_int_empty Try.lays2n20 A c w
theorem sorted_any (A : Option Addr) (n c : Nat) (xs : List Int) (w : World) (hA : RI w A n xs) (hn : n ≤ 1048576) :
    Calls Try.prog 62 #[.slice A n c] w fun e w' => ∃ A1 c1, e = .returned (.slice A1 n c1) ∧ OwnI w' w.heap.size A1 n c1 (sortI xs) ∧ Below w.heap.size w w' := by
  rcases Nat.eq_zero_or_pos n with rfl | h0
  · have hx : xs = [] := List.eq_nil_of_length_eq_zero hA.1
    have HS := Lib.hid (show sortI xs = [] by rw [hx]; exact List.eq_nil_of_length_eq_zero (sortI_len []))
    rw [HS.out]
    rcases A with _ | ad
    · go_enter Try.func62, Try.ntmps62
      go_wp2_with fail
      refine (Any.slices_Clone_int_nil Try.lays2n15 0 c w).mono ?_
      rintro e w1 ⟨rfl, rfl⟩
      go_wp2_with fail
      refine (slSort_zero none 0 _).mono ?_
      rintro e w2 ⟨rfl, rfl⟩
      go_wp2
      go_ret
      exact ⟨none, 0, rfl, OwnI.nil_ _ _, Below.refl _ _⟩
    · go_enter Try.func62, Try.ntmps62
      go_wp2_with fail
      refine (Any.slices_Clone_int_zero Try.lays2n15 ad c w).mono ?_
      rintro e w1 ⟨v, rfl, hown, hne, hb1⟩
      obtain ⟨A1, c1, rfl⟩ : ∃ A1 c1, v = .slice A1 0 c1 := by
        rcases hown.2 with ⟨hv, _⟩ | ⟨g, cap, cur, hv, _⟩
        · exact absurd hv hne
        · exact ⟨_, _, hv⟩
      have hown1 : OwnI w1 w.heap.size A1 0 c1 [] := hown
      clear hown hne
      go_wp2_with fail
      refine (slSort_zero A1 c1 _).mono ?_
      rintro e w2 ⟨rfl, rfl⟩
      go_wp2
      go_ret
      exact ⟨A1, c1, rfl, hown1, hb1⟩
  · obtain ⟨bd, rfl, _, _⟩ := hA.addr h0
    go_enter Try.func62, Try.ntmps62
    go_wp2_with fail
    refine (slClone_any bd n c xs w hA h0 hn).mono ?_
    rintro e w1 ⟨g, c1, rfl, hown, hb1⟩
    have hsz : w.heap.size ≤ w1.heap.size := hb1.size
    have hge := (hown.block g rfl).1
    go_wp2_with fail
    refine (slSort_any g n c1 w.heap.size xs w1 hown hn).mono ?_
    rintro e w2 ⟨rfl, hown2, hg2⟩
    have hb2 : Below w.heap.size w w2 := hb1.grown hg2 hsz fun k hk => by injection hk with hk; omega
    go_wp2
    go_ret
    exact ⟨_, c1, rfl, hown2, hb2⟩
end Go.Proofs.Ytnaoomchekhcgaa
