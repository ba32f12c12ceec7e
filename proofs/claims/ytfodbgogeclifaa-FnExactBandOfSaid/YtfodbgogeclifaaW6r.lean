/- Walks of chapter 6: a list turned round. -/
import Derived.Test.YtfodbgogeclifaaSlf
import Derived.Test.YtfodbgogeclifaaSlc
import Derived.Test.YtfodbgogeclifaaW3
namespace Go.Proofs.Ytfodbgogeclifaa
open Go.RowKit
set_option maxRecDepth 100000 in
set_option maxHeartbeats 1000000 in
theorem reversed_any (bd : Addr) (m d : Nat) (xs : List Int) (w : World) (hL : RI w (some bd) m xs) (h0 : 0 < m) (hm : m ≤ 1048576) :
    Calls Try.prog 92 #[.slice (some bd) m d] w (GivesI xs.reverse w) := by
  have HX := Lib.hid hL.1
  go_enter Try.func92, Try.ntmps92
  go_wp2_with fail
  refine (slClone_any bd m d xs w hL h0 hm).mono ?_
  rintro e w1 ⟨g, c1, rfl, hown1, hb1⟩
  go_wp2_with fail
  refine (slReverse_any g m c1 w.heap.size xs w1 hown1 h0 hm).mono ?_
  rintro e w2 ⟨rfl, hown2, hg2⟩
  have hb2 : Below w.heap.size w w2 := hb1.grown hg2 hb1.size (by
    intro k hk
    injection hk with hk
    subst hk
    exact (hown1.block g rfl).1)
  go_wp2
  go_ret
  have hl : m = xs.reverse.length := by rw [List.length_reverse]; exact HX.out.symm
  exact ⟨some ⟨g, 0, none⟩, c1, by rw [← hl]; rfl, hown2.cast hl rfl, hb2⟩
set_option maxRecDepth 100000 in
set_option maxHeartbeats 1000000 in
theorem l6Reverse_any (bd : Addr) (m d : Nat) (xs : List Int) (w : World) (hL : RI w (some bd) m xs) (hm : m ≤ 1048575) :
    Calls Try.prog 90 #[.slice (some bd) m d] w (GivesI xs.reverse w) := by
  have HX := Lib.hid hL.1
  go_enter Try.func90, Try.ntmps90
  go_wp2_with fail
  go_loopw [3, 4] (fun s i wr => ∃ (k : Nat) (A' : Option Addr) (c' : Nat), k ≤ m ∧ s = .slice A' k c' ∧ i = .int .i64 ((m : Int) - 1 - k) ∧ OwnI wr w.heap.size A' k c' (xs.reverse.take k) ∧ Below w.heap.size w wr) (fun _ i _ => ((intOf i) + 1).toNat)
  case atStart => exact ⟨0, _, _, Nat.zero_le _, rfl, by go_num, OwnI.made w (Nat.le_refl _), by go_grown⟩
  case round =>
    obtain ⟨k, A', c', hk, rfl, rfl, hown, hb⟩ := hrel
    obtain ⟨wo, rfl⟩ : ∃ wo : World, wo = wr := ⟨_, rfl⟩
    by_cases hkm : k < m
    · obtain ⟨v, hv⟩ : ∃ v : Nat, v = m - 1 - k := ⟨_, rfl⟩
      have hvm : v < m := by omega
      have hvi : (m : Int) - 1 - k = v := by omega
      have hsub : (m : Int) - 1 - ((k + 1 : Nat) : Int) = (v : Int) - 1 := by omega
      have hcv : wo.cell? (bd.add v) = some (.int .i64 (xs.getD v 0)) := by
        obtain ⟨_, e, _, hc⟩ := (hL.up hb).at_ hvm
        injection e with e
        subst e
        exact hc
      have HT := Lib.hid (show xs.reverse.take (k + 1) = xs.reverse.take k ++ [xs.getD v 0] from by
        have := HX.out
        rw [take_snocI (by rw [List.length_reverse]; omega)]
        congr 2
        simp [List.getD, hv, HX.out, List.getElem?_reverse (show k < xs.length by omega)])
      obtain ⟨z, hz⟩ : ∃ z, z = xs.getD v 0 := ⟨_, rfl⟩
      rw [← hz] at hcv HT
      rw [hvi]
      clear hz hv
      have hcell := (Blk.new wo 3 #[.int .i64 z]).one
      have hsz := hb.size
      go_wp2_with (at_builtin; refine wpList_push rfl (.tmp 13) (.tmp 18) rfl z rfl (hown.alloc _) ⟨wo.heap.size, 0, none⟩ rfl hcell (by omega) (by simp; omega) ?_; intro A7 c7 w7 hown7 hb7 hg7)
      go_roundw
      case rel => exact ⟨k + 1, A7, c7, by omega, rfl, by rw [hsub], by rw [HT.out]; exact hown7, (hb.alloc hsz _).trans hb7⟩
      case measure => first | (simp [intOf]; done) | (simp [intOf]; omega)
    · obtain rfl : k = m := by omega
      have e : xs.reverse.length = k := by rw [List.length_reverse]; exact HX.out
      have ht : xs.reverse.take k = xs.reverse := List.take_of_length_le (by omega)
      rw [ht] at hown
      go_wp2
      go_ret
      subst e
      exact ⟨A', c', rfl, hown, hb⟩
end Go.Proofs.Ytfodbgogeclifaa
