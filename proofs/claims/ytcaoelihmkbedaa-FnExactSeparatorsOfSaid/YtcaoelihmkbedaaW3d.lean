/- Walks of chapter 3: the reference's parts of a set. -/
import Derived.Test.YtcaoelihmkbedaaW3c
import Derived.Deep.RegionHeld3
namespace Go.Proofs.Ytcaoelihmkbedaa
open Go.RowKit
set_option maxHeartbeats 1000000 in
theorem l3Grow_any (A : Option Addr) (n c S x : Nat) (Q : List Nat) (w : World) (hX : RI w A n (ints Q)) (h : GOk n Q) (hS : S < 2 ^ n) (hx : sub x S) :
    Calls Try.prog 91 #[.agg #[.int .i64 n, .slice A n c], .int .i64 x, .int .i64 S] w fun e w' => e = .returned (.int .i64 (part Q n S x)) ∧ Below w.heap.size w w' := by
  have hS7 := h.n7 hS
  have hn7 := h.le
  go_enter Try.func91, Try.ntmps91
  go_wp2_with fail
  go_loopw [7, 8] (fun v i wr => ∃ k : Nat, k ≤ n ∧ i = .int .i64 k ∧ v = .int .i64 (grow Q S x k) ∧ Blk wr w.heap.size 27 #[.int .i64 n, .slice A n c] ∧ Below w.heap.size w wr) (fun _ i _ => n - (intOf i).toNat)
  case atStart => exact ⟨0, Nat.zero_le _, rfl, rfl, Blk.new _ _ _, by go_grown⟩
  case round =>
    obtain ⟨k, hk, rfl, rfl, hblk, hwr⟩ := hrel
    have hsub := grow_sub (Q := Q) hx k
    obtain ⟨hx0, hx1⟩ := hblk.two
    by_cases hlt : k < n
    · have HN := Lib.hid (show grow Q S x (k + 1) = step Q S (grow Q S x k) from rfl)
      obtain ⟨y, hy⟩ : ∃ y, y = grow Q S x k := ⟨_, rfl⟩
      rw [← hy] at hsub HN
      rw [← hy]
      have hy2 := sub_lt2 hsub hS
      have hand : bits .and .i64 ((around Q y : Nat) : Int) (S : Int) = ((step Q S y : Nat) : Int) := i64_and7 (h.n7 (around_lt h hy2)) hS7
      clear hy
      go_wp2_with fail
      refine (specAround_any A n c y Q _ (hX.up hwr) h hy2).mono ?_
      rintro e w2 ⟨rfl, hb2⟩
      have hw2 := Up.then_ hwr hb2
      have hblk2 := hblk.up hb2
      go_wp2
      go_roundw
      case rel => exact ⟨k + 1, by omega, by go_num, by rw [HN.out], hblk2, hw2⟩
      case measure => simp [intOf]; omega
    · obtain rfl : k = n := by omega
      go_wp2
      go_ret
      exact ⟨ret_int (by rfl), hwr⟩
theorem dif_add {a b : Nat} (h : sub b a) : dif a b + b = a := by
  have hd : dif a b &&& b = 0 := by
    apply Nat.eq_of_testBit_eq
    intro i
    rw [Nat.testBit_and, testBit_dif, Nat.zero_testBit]
    cases b.testBit i <;> simp
  rw [add_of_and hd]
  apply Nat.eq_of_testBit_eq
  intro i
  rw [Nat.testBit_or, testBit_dif]
  have := h i
  revert this
  cases a.testBit i <;> cases b.testBit i <;> simp
theorem listOf_pos : ∀ s : Nat, s < 128 → s ≠ 0 → 0 < (listOf s).length := by decide
set_option maxRecDepth 100000 in
set_option maxHeartbeats 1000000 in
theorem specPartsOf_any (A : Option Addr) (n c S : Nat) (Q : List Nat) (w : World) (hX : RI w A n (ints Q)) (h : GOk n Q) (hS : S < 2 ^ n) :
    Calls Try.prog 80 #[.agg #[.int .i64 n, .slice A n c], .int .i64 S] w (GivesI (ints (partsOf Q n S)) w) := by
  have hS7 := h.n7 hS
  have hown0 : OwnI ((w.alloc (.cells #[.int .i64 n, .slice A n c] 27)).alloc (.cells #[] 3)) w.heap.size (some ⟨w.heap.size + 1, 0, none⟩) 0 0 [] := by
    have hh := OwnI.made (base := w.heap.size) (w.alloc (.cells #[.int .i64 n, .slice A n c] 27)) (by simp)
    have e : (w.alloc (.cells #[.int .i64 n, .slice A n c] 27)).heap.size = w.heap.size + 1 := by simp
    rw [e] at hh
    exact hh
  go_enter Try.func80, Try.ntmps80
  go_wp2_with fail
  go_loopw [6, 5] (fun i v wr => ∃ (L : Nat) (l : List Nat) (B : Option Addr) (d : Nat), i = .int .i64 L ∧ v = .slice B l.length d ∧ OwnI wr w.heap.size B l.length d (ints l) ∧ Blk wr w.heap.size 27 #[.int .i64 n, .slice A n c] ∧ Below w.heap.size w wr ∧ l.length + L ≤ S ∧ Hid (closed Q S L) ∧ Hid (partsOf Q n S = l ++ partsK Q n S L L)) (fun i _ _ => (intOf i).toNat)
  case atStart => exact ⟨S, [], _, _, rfl, rfl, hown0.cast rfl rfl, (Blk.new w 27 #[.int .i64 n, .slice A n c]).alloc _, by go_grown, by simp, closed_all Q S, rfl⟩
  case round =>
    obtain ⟨L, l, B, d, rfl, rfl, hown, hblk, hwr, hlen, hc, hp⟩ := hrel
    have hL : L < 128 := Nat.lt_of_le_of_lt (sub_le hc.out.1) hS7
    obtain ⟨hx0, hx1⟩ := hblk.two
    by_cases h0 : L = 0
    · subst h0
      have HP := Lib.hid (show partsOf Q n S = l by rw [hp.out]; simp [partsK])
      go_wp2
      go_ret
      rw [HP.out]
      exact givesI_of hown hwr
    · have hlow := low_sub hL h0
      have hlowS := sub_trans hlow hc.out.1
      have hE := Lib.hid (grow_closed hc.out hlow n)
      have hfix := part_fixed (Q := Q) (n := n) h.le hS hlowS (low_ne L)
      have HC := Lib.hid (closed_dif h hS7 hc.out hfix)
      have HP := Lib.hid (partsK_step h hS hc.out h0)
      have hlt := dif_part_lt (n := n) hc.out hS7 h0
      have hsubL : sub (part Q n S (low L)) L := by
        have e : part Q n S (low L) = grow Q L (low L) n := hE.out.symm
        rw [e]; exact grow_sub hlow n
      have hda := dif_add hsubL
      have hpos := listOf_pos L hL h0
      have hll := listOf_len L
      have hLp : 0 < L := by omega
      clear hfix hsubL
      go_wp2_with fail
      refine (specIsSet_ok (hX.up hwr) h hS).mono ?_
      rintro e w2 ⟨rfl, hb2⟩
      have hw2 := Up.then_ hwr hb2
      have hblk2 := hblk.up hb2
      have hown2 := hown.up hb2
      go_wp2_with fail
      refine (specListOf_any L _ hL).mono ?_
      intro e w3 hg
      obtain ⟨G, dd, rfl, hownl, hb3⟩ := hg.out
      clear hg
      have hw3 := Up.then_ hw2 hb3
      have hblk3 := hblk2.up hb3
      have hown3 := hown2.up hb3
      obtain ⟨gad, rfl, hgc⟩ := hownl.ri.list_at hpos
      obtain ⟨gg, cap, hgv, _, _⟩ := World.ownsRow.form hownl hpos
      simp only [Value.slice.injEq, Option.some.injEq] at hgv
      obtain ⟨rfl, _⟩ := hgv
      replace hgc : w3.cell? ⟨gg, 0, none⟩ = some (.int .i64 (nb (listOf L) 0)) := hgc
      have hv7 := (nb_list hpos).1
      have hv62 : nb (listOf L) 0 ≤ 62 := by omega
      have hsh := shl_p2 hv62
      have hlo : low L = p2 (nb (listOf L) 0) := rfl
      rw [← hlo] at hsh
      obtain ⟨v, hv⟩ : ∃ v, v = nb (listOf L) 0 := ⟨_, rfl⟩
      rw [← hv] at hgc hsh hv62 hv7
      clear hlo hv
      obtain ⟨p, hpp⟩ : ∃ p, p = part Q n S (low L) := ⟨_, rfl⟩
      have HPP := Lib.hid hpp
      obtain ⟨q, hq⟩ : ∃ q, q = low L := ⟨_, rfl⟩
      have hpq : part Q n S q = p := by rw [hq, hpp]
      rw [← hpp] at hlt hda
      rw [← hq] at hsh hlowS
      clear hpp hq hlow
      clear hx0 hx1
      obtain ⟨hx0, hx1⟩ := hblk3.two
      have hbl := hblk3.lt
      have hX3 := hX.up hw3
      have hsh2 : IntKind.i64.wrap ((2 : Int) ^ v) = (q : Int) := by rw [IntWalk.i64_left]; exact hsh
      have hsh3 : IntKind.i64.wrap (1 * (2 : Int) ^ v) = (q : Int) := by rw [Int.one_mul]; rw [IntWalk.i64_left]; exact hsh
      go_wp2
      have hU0 : Up w3 w3.drew := (Up.refl _).drew
      go_region_held3 (fun w' => Up w3 w' ∧ ∀ b o, b < w3.heap.size → w'.cell? ⟨b, o, none⟩ = w3.cell? ⟨b, o, none⟩) (first | exact upk hU1 | exact upk hU0)
        (first | (go_at_call 91; refine (l3Grow_any A n c S q Q _ (hX3.up hU0) h hS hlowS).mono ?_; rintro e w4 ⟨rfl, hb4⟩; have hU1 := Up.then_ hU0 hb4))
      have hw4 := Up.then_ hw3 hU1
      have hblk4 := hblk3.up hU1
      have hown4 := hown3.up hU1
      have hsz := hw4.size
      clear hpq hsh2 hsh3
      have hcell := (Blk.new w4 3 #[.int .i64 (p : Int)]).one
      have hsub : (L : Int) - (p : Int) = ((dif L p : Nat) : Int) := by omega
      have HSub := Lib.hid hsub
      clear hsub
      go_wp2_with (at_builtin; refine wpList_push rfl (.tmp 27) (.tmp 29) rfl (p : Int) rfl (hown4.alloc _) ⟨w4.heap.size, 0, none⟩ rfl hcell (by omega) (by simp; omega) ?_; intro A' c' w5 hown5 hb5 hg5)
      go_roundw
      case rel => exact ⟨dif L p, l ++ [p], A', c', by rw [HSub.out], by rw [← push_len], hown5.cast (by rw [← push_len]) (by rw [ints_snoc]), (hown4.alloc _).keeps hg5 (hblk4.alloc _) (by decide), (hw4.alloc hsz _).trans hb5, by simp; omega, by rw [HPP.out]; exact HC.out, by rw [hp.out, HP.out, HPP.out, List.append_assoc]; rfl⟩
      case measure => simp [intOf]; omega
end Go.Proofs.Ytcaoelihmkbedaa
