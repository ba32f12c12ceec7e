/- Walks of chapter 3: the parts of a set. -/
import Derived.Test.YtcaoelihmkbedaaW7e
import Derived.Test.YtcaoelihmkbedaaPure3b
namespace Go.Proofs.Ytcaoelihmkbedaa
open Go.RowKit
theorem sub_lt2 {n S x : Nat} (h : sub x S) (hS : S < 2 ^ n) : x < 2 ^ n := Nat.lt_of_le_of_lt (sub_le h) hS
set_option maxHeartbeats 1000000 in
theorem implPartOf_any (A : Option Addr) (n c S x : Nat) (Q : List Nat) (w : World) (hX : RI w A n (ints Q)) (h : GOk n Q) (hS : S < 2 ^ n) (hx : sub x S) (h0 : x ≠ 0) :
    Calls Try.prog 92 #[.agg #[.int .i64 n, .slice A n c], .int .i64 S, .int .i64 x] w fun e w' => e = .returned (.int .i64 (part Q n S x)) ∧ Below w.heap.size w w' := by
  have hS7 := h.n7 hS
  go_enter Try.func92, Try.ntmps92
  go_wp2_with fail
  go_loopw [2] (fun v wr => ∃ k : Nat, v = .int .i64 (grow Q S x k) ∧ Blk wr w.heap.size 27 #[.int .i64 n, .slice A n c] ∧ Below w.heap.size w wr) (fun v _ => 128 - (intOf v).toNat)
  case atStart => exact ⟨0, rfl, Blk.new _ _ _, by go_grown⟩
  case round =>
    obtain ⟨k, rfl, hblk, hwr⟩ := hrel
    have hsub := grow_sub (Q := Q) hx k
    have hnext : grow Q S x (k + 1) = step Q S (grow Q S x k) := rfl
    have hfix := part_of_fix (Q := Q) (k := k) h.le hS hx h0
    obtain ⟨y, hy⟩ : ∃ y, y = grow Q S x k := ⟨_, rfl⟩
    rw [← hy] at hsub hnext hfix
    rw [← hy]
    have hy2 := sub_lt2 hsub hS
    have hy7 := h.n7 hy2
    have hor := i64_or7 hy7 (h.n7 (nbrs_lt h y))
    have hand : bits .and .i64 ((y ||| nbrs Q y : Nat) : Int) (S : Int) = ((step Q S y : Nat) : Int) := i64_and7 (h.n7 (around_lt h hy2)) hS7
    have hle := sub_step (Q := Q) hsub
    have hs7 : step Q S y < 128 := Nat.lt_of_le_of_lt (sub_le step_sub) hS7
    have HN := Lib.hid hnext
    have HF := Lib.hid hfix
    clear hy hnext hfix
    obtain ⟨hx0, hx1⟩ := hblk.two
    go_wp2_with fail
    refine (implNeighbors_any A n c y Q _ (hX.up hwr) h hy2).mono ?_
    rintro e w2 ⟨rfl, hb2⟩
    have hw2 := Up.then_ hwr hb2
    have hblk2 := hblk.up hb2
    by_cases e1 : step Q S y = y
    · have H1 := Lib.hid (HF.out e1)
      rw [e1] at hand
      clear e1
      go_wp2
      go_ret
      exact ⟨ret_int (by rw [H1.out]), hw2⟩
    · have hgt := sub_lt hle (Ne.symm e1)
      have hne : (((step Q S y : Nat) : Int) == (y : Int)) = false := by
        rw [beq_eq_false_iff_ne]
        exact fun hh => e1 (Int.ofNat_inj.1 hh)
      clear e1
      go_wp2
      go_roundw
      case rel => exact ⟨k + 1, by rw [HN.out], hblk2, hw2⟩
      case measure => simp [intOf]; omega
theorem land_neg : ∀ s : Nat, s < 128 → s ≠ 0 → bits .and .i64 (s : Int) (-(s : Int)) = ((low s : Nat) : Int) := by decide
set_option maxRecDepth 100000 in
set_option maxHeartbeats 1000000 in
theorem implParts_any (A : Option Addr) (n c S : Nat) (Q : List Nat) (w : World) (hX : RI w A n (ints Q)) (h : GOk n Q) (hS : S < 2 ^ n) :
    Calls Try.prog 83 #[.agg #[.int .i64 n, .slice A n c], .int .i64 S] w (GivesI (ints (partsOf Q n S)) w) := by
  have hS7 := h.n7 hS
  have hown0 : OwnI ((w.alloc (.cells #[.int .i64 n, .slice A n c] 27)).alloc (.cells #[] 3)) w.heap.size (some ⟨w.heap.size + 1, 0, none⟩) 0 0 [] := by
    have hh := OwnI.made (base := w.heap.size) (w.alloc (.cells #[.int .i64 n, .slice A n c] 27)) (by simp)
    have e : (w.alloc (.cells #[.int .i64 n, .slice A n c] 27)).heap.size = w.heap.size + 1 := by simp
    rw [e] at hh
    exact hh
  go_enter Try.func83, Try.ntmps83
  go_wp2_with fail
  go_loopw [1, 5] (fun i v wr => ∃ (L : Nat) (l : List Nat) (B : Option Addr) (d : Nat), i = .int .i64 L ∧ v = .slice B l.length d ∧ OwnI wr w.heap.size B l.length d (ints l) ∧ Blk wr w.heap.size 27 #[.int .i64 n, .slice A n c] ∧ Below w.heap.size w wr ∧ l.length + L ≤ S ∧ Hid (closed Q S L) ∧ Hid (partsOf Q n S = l ++ partsK Q n S L L)) (fun i _ _ => (intOf i).toNat)
  case atStart => exact ⟨S, [], _, _, rfl, rfl, hown0.cast rfl rfl, (Blk.new w 27 #[.int .i64 n, .slice A n c]).alloc _, by go_grown, by simp, closed_all Q S, rfl⟩
  case round =>
    obtain ⟨L, l, B, d, rfl, rfl, hown, hblk, hwr, hlen, hc, hp⟩ := hrel
    have hL : L < 128 := Nat.lt_of_le_of_lt (sub_le hc.out.1) hS7
    obtain ⟨hx0, hx1⟩ := hblk.two
    by_cases h0 : L = 0
    · subst h0
      have HP := Lib.hid (show partsOf Q n S = l by rw [hp.out]; simp [partsK])
      go_wp2
      go_ret
      rw [HP.out]
      exact givesI_of hown hwr
    · have hlow := low_sub hL h0
      have hln := land_neg L hL h0
      have hL2 := sub_lt2 hc.out.1 hS
      have hcl := Lib.hid (grow_closed hc.out hlow n)
      have hfix := part_fixed (Q := Q) (n := n) h.le hS (sub_trans hlow hc.out.1) (low_ne L)
      have HC := Lib.hid (closed_dif h hS7 hc.out hfix)
      have HP := Lib.hid (partsK_step h hS hc.out h0)
      have hlt := dif_part_lt (n := n) hc.out hS7 h0
      have hp7 : part Q n S (low L) < 128 := Nat.lt_of_le_of_lt (sub_le (grow_sub (sub_trans hlow hc.out.1) n)) hS7
      have hdf := i64_dif7 hL hp7
      have hne : ((L : Int) != 0) = true := by rw [bne_iff_ne]; omega
      clear hfix
      go_wp2_with fail
      refine (implPartOf_any A n c L (low L) Q _ (hX.up hwr) h hL2 hlow (low_ne L)).mono ?_
      rintro e w2 ⟨rfl, hb2⟩
      have hw2 := Up.then_ hwr hb2
      have hblk2 := hblk.up hb2
      have hown2 := hown.up hb2
      have hsz := hw2.size
      have hE : part Q n L (low L) = part Q n S (low L) := hcl.out
      rw [hE]
      clear hE
      obtain ⟨p, hpp⟩ : ∃ p, p = part Q n S (low L) := ⟨_, rfl⟩
      have HPP := Lib.hid hpp
      rw [← hpp] at hlt hp7 hdf
      rw [← hpp]
      clear hpp hln
      have hcell := (Blk.new w2 3 #[.int .i64 (p : Int)]).one
      go_wp2_with (at_builtin; refine wpList_push rfl (.tmp 17) (.tmp 19) rfl (p : Int) rfl (hown2.alloc _) ⟨w2.heap.size, 0, none⟩ rfl hcell (by omega) (by simp; omega) ?_; intro A' c' w5 hown5 hb5 hg5)
      go_roundw
      case rel => exact ⟨dif L p, l ++ [p], A', c', rfl, by rw [← push_len], hown5.cast (by rw [← push_len]) (by rw [ints_snoc]), (hown2.alloc _).keeps hg5 (hblk2.alloc _) (by decide), (hw2.alloc hsz _).trans hb5, by simp; omega, by rw [HPP.out]; exact HC.out, by rw [hp.out, HP.out, HPP.out, List.append_assoc]; rfl⟩
      case measure => simp [intOf]; omega
end Go.Proofs.Ytcaoelihmkbedaa
