/- Walks of chapter 6: the simplicial vertices. -/
import Derived.Test.YthncdjcmlpiebaaW6
import Derived.Test.YthncdjcmlpiebaaPurG
namespace Go.Proofs.Ythncdjcmlpiebaa
open Go.RowKit
theorem filtS_len (p : Nat → Bool) (k : Nat) : (filtK p k).length ≤ k := filtK_len p k
set_option maxRecDepth 100000 in
set_option maxHeartbeats 2000000 in
theorem implSimplicialOf_any (N : Int) (A : Option Addr) (n c : Nat) (X : List Int) (w : World) (hX0 : RI w A n X) (hn : n ≤ 9223372036854775807) :
    Calls Try.prog 34 #[.agg #[.int .i64 N, .slice A n c]] w (GivesI (simpL N X) w) := by
  have hown0 : OwnI ((w.alloc (.cells #[.int .i64 N, .slice A n c] 26)).alloc (.cells #[] 3)) w.heap.size (some ⟨w.heap.size + 1, 0, none⟩) 0 0 [] := OwnI.made_at (by simp) (by omega)
  have hbk := (Blk.new w 26 #[.int .i64 N, .slice A n c]).alloc (.cells #[] 3)
  rcases isGraph_cases N X with hg | ⟨k, Q, rfl, rfl, h⟩
  · have Hg := Lib.hid hg
    rw [simpL_no hg]
    clear hg
    go_enter Try.func34, Try.ntmps34
    go_wp2_with fail
    refine (implIsGraph_is (hX0.up (by go_grown)) hn Hg.out).mono ?_
    rintro e w1 ⟨rfl, hb1⟩
    have hU1 : Up w w1 := Up.then_ (by go_grown) hb1
    go_wp2
    go_ret
    exact givesI_of (l := []) ((hown0.up hb1).cast rfl rfl) hU1
  · obtain rfl : n = k := by rw [← hX0.1, ints_len, h.len]
    rw [simpL_ok h]
    have hn7 := h.le
    obtain ⟨P, hP⟩ : ∃ P : Nat → Bool, P = fun v => clq Q (nb Q v) := ⟨_, rfl⟩
    rw [← hP]
    have HP := Lib.hid hP
    have HPL := Lib.hid fun k => filtS_len P k
    have HLT := Lib.hid fun v => h.lt v
    clear hP
    go_enter Try.func34, Try.ntmps34
    go_wp2_with fail
    refine (implIsGraph_is (hX0.up (by go_grown)) hn h.is).mono ?_
    rintro e w1 ⟨rfl, hb1⟩
    have hU1 : Up w w1 := Up.then_ (by go_grown) hb1
    have hown1 := hown0.up hb1
    have hbk1 := hbk.up hb1
    have hyb := hbk1.two
    clear hown0 hbk hb1
    go_wp2_with fail
    go_loopw [3, 14] (fun s i wr => ∃ (v : Nat) (A' : Option Addr) (c' : Nat), v ≤ n ∧ i = .int .i64 v ∧ s = .slice A' (filtK P v).length c' ∧ OwnI wr w.heap.size A' (filtK P v).length c' (ints (filtK P v)) ∧ Blk wr w.heap.size 26 #[.int .i64 n, .slice A n c] ∧ Below w.heap.size w wr) (fun _ i _ => n - (intOf i).toNat)
    case atStart => exact ⟨0, _, _, by omega, rfl, rfl, hown1.cast rfl rfl, hbk1, hU1⟩
    case round =>
      clear hown1 hbk1 hyb
      obtain ⟨v, A', c', hv, rfl, rfl, hown, hblk, hwr⟩ := hrel
      have hyb := hblk.two
      have hpl := HPL.out v
      by_cases hvn : v < n
      · have hXr := hX0.up hwr
        obtain ⟨ad, rfl, _, hc⟩ := hXr.at_ hvn
        rw [ints_nb] at hc
        obtain ⟨r, hr⟩ : ∃ r, r = nb Q v := ⟨_, rfl⟩
        rw [← hr] at hc
        have Hr := Lib.hid hr
        have hrlt : r < 2 ^ n := by rw [hr]; exact HLT.out v
        clear hr
        obtain ⟨b, hb⟩ : ∃ b, b = clq Q r := ⟨_, rfl⟩
        have HPv : P v = b := by rw [HP.out, hb, Hr.out]
        have hC := implClq_any (some ad) n c r Q
        rw [← hb] at hC
        clear hb
        go_wp2_with fail
        refine (hC _ hXr h hrlt).mono ?_
        rintro e w2 ⟨rfl, hb2⟩
        replace hown := hown.up hb2
        replace hblk := hblk.up hb2
        have hw2 := Up.then_ hwr hb2
        have hsz := hw2.size
        have hcell := (Blk.new w2 3 #[.int .i64 (v : Int)]).one
        clear hyb hC hXr hc hb2
        cases b
        · have HF := Lib.hid (filtK_no HPv)
          clear HPv
          go_wp2
          go_roundw
          case rel => exact ⟨v + 1, A', c', by omega, by go_num, by rw [HF.out], hown.cast (by rw [HF.out]) (by rw [HF.out]), hblk, hw2⟩
          case measure => simp [intOf]; omega
        · have HF := Lib.hid (filtK_yes HPv)
          clear HPv
          go_wp2_with (at_builtin; refine wpList_push rfl (.tmp 22) (.tmp 24) rfl (v : Int) rfl (hown.alloc _) ⟨w2.heap.size, 0, none⟩ rfl hcell (by omega) (by simp; omega) ?_; intro A5 c5 w5 hown5 hb5 hg5)
          go_roundw
          case rel => exact ⟨v + 1, A5, c5, by omega, by go_num, by rw [HF.out, ← push_len], hown5.cast (by rw [HF.out, ← push_len]) (by rw [HF.out, ints_snoc]), (hown.alloc _).keeps hg5 (hblk.alloc _) (by decide), (hw2.alloc hsz _).trans hb5⟩
          case measure => simp [intOf]; omega
      · obtain rfl : v = n := by omega
        go_wp2
        go_ret
        exact givesI_of (l := filtK P v) hown hwr
set_option maxRecDepth 100000 in
set_option maxHeartbeats 2000000 in
theorem specSimplicialOf_any (N : Int) (A : Option Addr) (n c : Nat) (X : List Int) (w : World) (hX0 : RI w A n X) (hn : n ≤ 9223372036854775807) :
    Calls Try.prog 45 #[.agg #[.int .i64 N, .slice A n c]] w (GivesI (simpL N X) w) := by
  have hown0 : OwnI ((w.alloc (.cells #[.int .i64 N, .slice A n c] 26)).alloc (.cells #[] 3)) w.heap.size (some ⟨w.heap.size + 1, 0, none⟩) 0 0 [] := OwnI.made_at (by simp) (by omega)
  have hbk := (Blk.new w 26 #[.int .i64 N, .slice A n c]).alloc (.cells #[] 3)
  have hU0 : Up w ((w.alloc (.cells #[.int .i64 N, .slice A n c] 26)).alloc (.cells #[] 3)) := by go_grown
  rcases isGraph_cases N X with hg | ⟨k, Q, rfl, rfl, h⟩
  · have Hg := Lib.hid hg
    rw [simpL_no hg]
    clear hg
    go_enter Try.func45, Try.ntmps45
    go_wp2_with fail
    generalize hWW : (w.alloc (.cells #[.int .i64 N, .slice A n c] 26)).alloc (.cells #[] 3) = W0 at hown0 hbk hU0 ⊢
    clear hWW
    go_loopw [3, 4] (fun s i wr => s = .slice (some ⟨w.heap.size + 1, 0, none⟩) 0 0 ∧ i = .int .i64 0 ∧ wr = W0) (fun _ _ _ => 0)
    case atStart => exact ⟨rfl, rfl, rfl⟩
    case round =>
      obtain ⟨rfl, rfl, rfl⟩ := hrel
      have hyb := hbk.two
      by_cases hN : 0 < N
      · go_wp2_with fail
        refine (specIsGraph_is (hX0.up hU0) hn Hg.out).mono ?_
        rintro e w1 ⟨rfl, hb1⟩
        go_wp2
        go_ret
        exact givesI_of (l := []) ((hown0.up hb1).cast rfl rfl) (Up.then_ hU0 hb1)
      · go_wp2
        go_ret
        exact givesI_of (l := []) (hown0.cast rfl rfl) hU0
  · obtain rfl : n = k := by rw [← hX0.1, ints_len, h.len]
    rw [simpL_ok h]
    have hn7 := h.le
    have hp1 := p2_le hn7
    have hp2 := p2_pos n
    have hsh := shl_p2 (k := n) (by omega)
    have hsh2 : IntKind.i64.wrap ((2 : Int) ^ n) = ((p2 n : Nat) : Int) := by rw [IntWalk.i64_left]; exact hsh
    have hsub : IntKind.i64.wrap (((p2 n : Nat) : Int) - 1) = ((p2 n - 1 : Nat) : Int) := by rw [IntKind.wrap_i64]; omega
    have hsub2 : wrap64 (((p2 n : Nat) : Int) - 1) = ((p2 n - 1 : Nat) : Int) := by rw [← IntWalk.i64_left]; exact hsub
    obtain ⟨P, hP⟩ : ∃ P : Nat → Bool, P = fun v => clq Q (nb Q v) := ⟨_, rfl⟩
    rw [← hP]
    have HP := Lib.hid (fun v => show spl Q (p2 n - 1) v = P v by rw [hP, spl]; show clq Q (nb Q v &&& (2 ^ n - 1)) = _; rw [full_and (h.lt v)])
    have HPL := Lib.hid fun k => filtS_len P k
    have hfull : p2 n - 1 < 2 ^ n := by show 2 ^ n - 1 < 2 ^ n; have := Nat.two_pow_pos n; omega
    clear hP
    go_enter Try.func45, Try.ntmps45
    go_wp2_with fail
    go_loopw [3, 4] (fun s i wr => ∃ (v : Nat) (A' : Option Addr) (c' : Nat), v ≤ n ∧ i = .int .i64 v ∧ s = .slice A' (filtK P v).length c' ∧ OwnI wr w.heap.size A' (filtK P v).length c' (ints (filtK P v)) ∧ Blk wr w.heap.size 26 #[.int .i64 n, .slice A n c] ∧ Below w.heap.size w wr) (fun _ i _ => n - (intOf i).toNat)
    case atStart => exact ⟨0, _, _, by omega, rfl, rfl, hown0.cast rfl rfl, hbk, hU0⟩
    case round =>
      clear hown0 hbk hU0
      obtain ⟨v, A', c', hv, rfl, rfl, hown, hblk, hwr⟩ := hrel
      obtain ⟨wo, rfl⟩ : ∃ wo : World, wo = wr := ⟨_, rfl⟩
      have hyb := hblk.two
      have hpl := HPL.out v
      by_cases hvn : v < n
      · have hXr := hX0.up hwr
        obtain ⟨b, hb⟩ : ∃ b, b = P v := ⟨_, rfl⟩
        have HPv : P v = b := hb.symm
        have HS := Lib.hid (show spl Q (p2 n - 1) v = b by rw [hb]; exact HP.out v)
        clear hb
        go_wp2_with fail
        refine (specIsGraph_is hXr hn h.is).mono ?_
        rintro e w1 ⟨rfl, hb1⟩
        replace hown := hown.up hb1
        replace hblk := hblk.up hb1
        have hw1 := Up.then_ hwr hb1
        replace hXr := hXr.up hb1
        clear hyb hb1 hwr
        have yhblk := hblk.two
        have lhblk := hblk.lt
        have yhblk := hblk.two
        have lhblk := hblk.lt
        go_wp2
        have hV0 : Up w1 w1.drew := (Up.refl _).drew
        refine wp_region_calm (S := (fun w' => Up w1 w' ∧ (∀ b o, b < w1.heap.size → w'.cell? ⟨b, o, none⟩ = w1.cell? ⟨b, o, none⟩))) (by kernel_rfl) (by kernel_rfl) (by exact ⟨hV0, fun _ _ hb => hV0.cell hb⟩) ?_
        repeat (first | (refine CalmSeq.cons undef (Calm.off (by rfl)) ?_; (try simp only [Act.put, List.setIfInBounds_toArray, List.set_cons_zero, List.set_cons_succ])) | (refine CalmSeq.cons ?_ (Calm.val (by rfl) ?_) ?_; rotate_left; (intro wC hSw; (try dsimp only at hSw); go_simp; done); (try simp only [Act.put, List.setIfInBounds_toArray, List.set_cons_zero, List.set_cons_succ])) | (refine CalmSeq.cons ?_ (Calm.val (by rfl) ?_) ?_; rotate_left; (intro wC hSw; (try dsimp only at hSw); go_simp; with_reducible rfl); (try simp only [Act.put, List.setIfInBounds_toArray, List.set_cons_zero, List.set_cons_succ])) | ((refine CalmSeq.cons ?_ (Calm.call (f := ?_) (args := ?_) (by rfl) ?_ (fun wC hSw => ?_)) ?_; rotate_left 3; (intro wC; go_simp; (refine ⟨?_, ?_⟩ <;> with_reducible rfl)); (go_at_call 75; (with_reducible refine (l6Simplicial_is (hXr.up hSw.1) h hfull hvn HS.out).mono ?_); rintro e wD ⟨rfl, hbD⟩; apply And.intro; (with_reducible rfl); (have hUD := Up.then_ hSw.1 hbD; exact ⟨hUD, fun _ _ hb => hUD.cell hb⟩))); (try simp only [Act.put, List.setIfInBounds_toArray, List.set_cons_zero, List.set_cons_succ])))
        intro w2 hS2
        have hU2 : Up w1 w2 := hS2.1
        clear hS2 hV0
        replace hblk := hblk.up hU2
        replace hown := hown.up hU2
        replace hXr := hXr.up hU2
        replace yhblk := hblk.two
        replace lhblk := hblk.lt
        have hw2 := Up.then_ hw1 hU2
        have hsz := hw2.size
        have hcell := (Blk.new w2 3 #[.int .i64 (v : Int)]).one
        cases b
        · have HF := Lib.hid (filtK_no HPv)
          clear HPv HS
          go_wp2
          go_roundw
          case rel => exact ⟨v + 1, A', c', by omega, by go_num, by rw [HF.out], hown.cast (by rw [HF.out]) (by rw [HF.out]), hblk, hw2⟩
          case measure => simp [intOf]; omega
        · have HF := Lib.hid (filtK_yes HPv)
          clear HPv HS
          go_wp2_with (at_builtin; refine wpList_push rfl (.tmp 23) (.tmp 25) rfl (v : Int) rfl (hown.alloc _) ⟨w2.heap.size, 0, none⟩ rfl hcell (by omega) (by simp; omega) ?_; intro A5 c5 w5 hown5 hb5 hg5)
          go_roundw
          case rel => exact ⟨v + 1, A5, c5, by omega, by go_num, by rw [HF.out, ← push_len], hown5.cast (by rw [HF.out, ← push_len]) (by rw [HF.out, ints_snoc]), (hown.alloc _).keeps hg5 (hblk.alloc _) (by decide), (hw2.alloc hsz _).trans hb5⟩
          case measure => simp [intOf]; omega
      · obtain rfl : v = n := by omega
        go_wp2_with fail
        all_goals first
          | (go_ret; exact givesI_of (l := filtK P v) hown hwr)
end Go.Proofs.Ythncdjcmlpiebaa
