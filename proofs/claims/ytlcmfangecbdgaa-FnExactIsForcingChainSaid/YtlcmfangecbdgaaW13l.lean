/- Walks of chapter 13: what an arc forces at once, the program's. -/
import Derived.Test.YtlcmfangecbdgaaW13k
import Derived.Test.YtlcmfangecbdgaaW3b
namespace Go.Proofs.Ytlcmfangecbdgaa
open Go.RowKit
theorem listOf_full : ∀ n, n ≤ 7 → listOf (p2 n - 1) = List.range n := by decide
theorem nb_range {n k : Nat} (h : k < n) : nb (List.range n) k = k := by simp [nb, List.getD, h]
theorem range_ints_len {n : Nat} : (List.range n).length = n := List.length_range
theorem take_nb {l : List Nat} {j : Nat} (h : j < l.length) : l.take (j + 1) = l.take j ++ [nb l j] := by rw [List.take_add_one, List.getElem?_eq_getElem h]; simp [nb, List.getD, List.getElem?_eq_getElem h]
theorem listAll_any {n : Nat} (w : World) (h7 : n ≤ 7) : Calls Try.prog 79 #[.int .i64 ((p2 n - 1 : Nat) : Int)] w fun e w' => ∃ B d, e = .returned (.slice B n d) ∧ OwnI w' w.heap.size B n d (ints (List.range n)) ∧ Below w.heap.size w w' := by
  have h1 := p2_le h7
  have h2 := p2_pos n
  refine (implListOf_any (p2 n - 1) w (by omega)).mono fun e w' k => ?_
  obtain ⟨B, d, e1, h1, h2⟩ := k.out
  rw [listOf_full n h7, List.length_range] at e1 h1
  exact ⟨B, d, e1, h1, h2⟩
theorem listOf_is {s : Nat} {l : List Nat} {w : World} (hs : s < 128) (hl : listOf s = l) : Calls Try.prog 79 #[.int .i64 s] w fun e w' => ∃ B d, e = .returned (.slice B l.length d) ∧ OwnI w' w.heap.size B l.length d (ints l) ∧ Below w.heap.size w w' := by
  subst hl
  exact (implListOf_any s w hs).mono fun _ _ h => h.out
theorem has_up13 {s v : Nat} {w : World} {b : Bool} (hs : s < 128) (hv : v < 7) (h : s.testBit v = b) : Calls Try.prog 77 #[.int .i64 s, .int .i64 v] w fun e w' => e = .returned (.bool b) ∧ Below w.heap.size w w' :=
  (has_eq (by omega) (by omega) h).mono fun _ _ k => ⟨k.1, k.2 ▸ Below.refl _ _⟩
set_option maxRecDepth 100000 in
set_option maxHeartbeats 4000000 in
theorem forces_any (A : Option Addr) (n c a b : Nat) (Q : List Nat) (w : World) (hX : RI w A n (ints Q)) (h : GOk n Q) (ha : a < n) (hb : b < n) :
    Calls Try.prog 63 #[.agg #[.int .i64 n, .slice A n c], .int .i64 a, .int .i64 b] w (GivesS ((nxt Q n a b).map row2) w) := by
  have hbk := (Blk.new w 27 #[.int .i64 n, .slice A n c]).alloc (.cells #[] 22)
  have hown0 := OwnS.made (w := w.alloc (.cells #[.int .i64 n, .slice A n c] 27)) (g := w.heap.size + 1) (base := w.heap.size + 1) (by simp) (by omega)
  have hU0 : Up w ((w.alloc (.cells #[.int .i64 n, .slice A n c] 27)).alloc (.cells #[] 22)) := by go_grown
  have h7 := h.le
  obtain ⟨aX, rfl, _, _⟩ := hX.addr h.pos
  have HlK := Lib.hid fun k => nxtK_len Q n a b k
  have HR := Lib.hid (show nxtK Q n a b n = nxt Q n a b from rfl)
  have hl7 := listOf_len (frcS Q a b)
  have HL := Lib.hid (frc_own h a b)
  obtain ⟨l, hl⟩ : ∃ l, l = listOf (frcS Q a b) := ⟨_, rfl⟩
  rw [← hl] at hl7 HL
  have HLe := Lib.hid hl.symm
  clear hl
  have hF7 : frcS Q a b < 128 := h.n7 (frcS_lt h a b)
  have hB7 : frcB Q a b < 128 := Nat.lt_of_le_of_lt (dif_le _ _) (h.nb7 b)
  have hd1 := i64_dif7 (a := nb Q a) (b := nb Q b) (h.nb7 a) (h.nb7 b)
  have hd3 := i64_dif7 (a := nb Q b) (b := nb Q a) (h.nb7 b) (h.nb7 a)
  have hsh := shl_p2 (k := b) (by omega)
  have hshI : IntKind.i64.wrap ((2 : Int) ^ b) = ((p2 b : Nat) : Int) := by rw [IntWalk.i64_left]; exact hsh
  have hpb : p2 b < 128 := Nat.pow_lt_pow_right (by omega) (by omega : b < 7)
  have hd7 : dif (nb Q a) (nb Q b) < 128 := Nat.lt_of_le_of_lt (dif_le _ _) (h.nb7 a)
  have hd2 := i64_dif7 (a := dif (nb Q a) (nb Q b)) (b := p2 b) hd7 hpb
  rw [show dif (dif (nb Q a) (nb Q b)) (p2 b) = frcS Q a b from rfl] at hd2
  rw [show dif (nb Q b) (nb Q a) = frcB Q a b from rfl] at hd3
  have HBv := Lib.hid fun v (hv : v ≠ a) => nxtV_other (b := b) h hv n
  obtain ⟨F, hF⟩ : ∃ F, F = frcS Q a b := ⟨_, rfl⟩
  rw [← hF] at hd2 hF7 HLe
  obtain ⟨F2, hF2⟩ : ∃ F2, F2 = frcB Q a b := ⟨_, rfl⟩
  rw [← hF2] at hd3 hB7 HBv
  obtain ⟨ra, hra⟩ : ∃ ra, ra = nb Q a := ⟨_, rfl⟩
  obtain ⟨rb, hrb⟩ : ∃ rb, rb = nb Q b := ⟨_, rfl⟩
  rw [← hra, ← hrb] at hd1 hd2 hd3 hd7
  have Hra := Lib.hid hra
  have Hrb := Lib.hid hrb
  obtain ⟨D, hD⟩ : ∃ D, D = dif ra rb := ⟨_, rfl⟩
  rw [← hD] at hd1 hd2 hd7
  clear hF hF2 hra hrb hD
  obtain ⟨R, hR⟩ : ∃ R, R = nxt Q n a b := ⟨_, rfl⟩
  rw [← hR] at HR ⊢
  clear hR
  obtain ⟨W, hW⟩ : ∃ W, W = (w.alloc (.cells #[.int .i64 n, .slice (some aX) n c] 27)).alloc (.cells #[] 22) := ⟨_, rfl⟩
  have hlW2 : w.heap.size + 2 = W.heap.size := by rw [hW]; simp
  rw [← hW] at hbk hown0 hU0
  go_enter Try.func63, Try.ntmps63
  go_wp2_with fail
  rw [← hW]
  refine (all_any n (some aX) c n W h7).mono ?_
  rintro e w1 ⟨rfl, hb1⟩
  clear hW
  go_wp2_with fail
  refine (listAll_any w1 h7).mono ?_
  rintro e w2 ⟨L, d, rfl, hL, hb2⟩
  have hb12 := Up.then_ hb1 hb2
  have hU2 := Up.then_ hU0 hb12
  replace hown0 := hown0.up hb12
  replace hbk := hbk.up hb12
  have hLr : OwnI w2 (w.heap.size + 1) L n d (ints (List.range n)) := hL.more (by have := hb1.size; have := hlW2; omega)
  clear hL hb1 hb2 hb12
  go_wp2_with fail
  go_loopw [7, 17] (fun s i wr => ∃ (v : Nat) (out : List (Nat × Nat)) (A' : Option Addr) (c' : Nat) (ps : List RowP), v ≤ n ∧ i = .int .i64 v ∧ s = .slice A' out.length c' ∧ OwnS wr (w.heap.size + 1) A' out.length c' ps ∧ Hid (ps.map Prod.snd = out.map row2 ∧ out = nxtK Q n a b v) ∧ OwnI wr (w.heap.size + 1) L n d (ints (List.range n)) ∧ Blk wr w.heap.size 27 #[.int .i64 n, .slice (some aX) n c] ∧ Below (w.heap.size + 1) w2 wr) (fun _ i _ => n - (intOf i).toNat)
  case atStart => exact ⟨0, [], _, _, [], Nat.zero_le _, rfl, rfl, hown0, ⟨rfl, rfl⟩, hLr, hbk, Below.refl _ _⟩
  case round =>
    clear hown0 hbk hLr
    obtain ⟨v, out, A', c', ps, hv, rfl, rfl, hown, hps, hLr, hbk, hbw⟩ := hrel
    obtain ⟨wo, rfl⟩ : ∃ wo : World, wo = wr := ⟨_, rfl⟩
    have hyo := hbk.two
    have hlo := hbk.lt
    have hUo : Up w wo := hU2.trans (hbw.mono (by omega))
    have hXo := hX.up hUo
    have ho49 : out.length ≤ 49 := by
      rw [hps.out.2]
      exact Nat.le_trans (HlK.out v) (Nat.mul_le_mul (show v ≤ 7 by omega) h7)
    by_cases hvn : v < n
    · obtain ⟨aL, rfl, hcL⟩ := hLr.ri.nb_at hvn
      rw [nb_range hvn] at hcL
      have hca := hXo.nbs ha
      have hcb := hXo.nbs hb
      rw [← Hra.out] at hca
      rw [← Hrb.out] at hcb
      have haX : aX.block < wo.heap.size := by obtain ⟨_, e, h1, _⟩ := hXo.addr h.pos; injection e with e; subst e; exact h1
      by_cases hva : v = a
      · obtain rfl : a = v := hva.symm
        have HS := Lib.hid (show out ++ l.map (fun c => (a, c)) = nxtK Q n a b (a + 1) by rw [hps.out.2, HL.out]; rfl)
        go_wp2
        go_wp2
        have hV0 : Up wo wo.drew := (Up.refl _).drew
        go_region_held3 (fun w' => Up wo w' ∧ (∀ b o, b < wo.heap.size → w'.cell? ⟨b, o, none⟩ = wo.cell? ⟨b, o, none⟩) ∧ w'.cell? (aX.add a) = some (.int .i64 (ra : Nat)) ∧ w'.cell? (aX.add b) = some (.int .i64 (rb : Nat))) (first | exact (by exact ⟨hV1, fun _ _ hb => hV1.cell hb, (hV1.cell (by first | assumption | (rw [block_of_add]; assumption))).trans (by assumption), (hV1.cell (by first | assumption | (rw [block_of_add]; assumption))).trans (by assumption)⟩) | exact (by exact ⟨hV0, fun _ _ hb => hV0.cell hb, (hV0.cell (by first | assumption | (rw [block_of_add]; assumption))).trans (by assumption), (hV0.cell (by first | assumption | (rw [block_of_add]; assumption))).trans (by assumption)⟩)) (first | (go_at_call 79; refine (listOf_is hF7 HLe.out).mono ?_; rintro e w30 ⟨L2, d2, rfl, hL2, hb30⟩; have hV1 := Up.then_ hV0 hb30))
        have hU3 := hV1
        have hown3 := hown.up hU3
        have hLr3 := hLr.up hU3
        have hbk3 := hbk.up hU3
        have hb3 := hbw.trans (hU3.mono (by omega) : Below (w.heap.size + 1) wo w30)
        have hL2r : OwnI w30 (w.heap.size + 1) L2 l.length d2 (ints l) := hL2.more (by rw [World.size_drew]; omega)
        have hUo3 : Up wo w30 := hU3
        clear hL2 hb30 hV1 hcL hca hcb hyo
        go_wp2
        go_loopw [7, 40] (fun s i wr => ∃ (j : Nat) (o2 : List (Nat × Nat)) (A4 : Option Addr) (c4 : Nat) (pk : List RowP), j ≤ l.length ∧ i = .int .i64 j ∧ s = .slice A4 o2.length c4 ∧ OwnS wr (w.heap.size + 1) A4 o2.length c4 pk ∧ Hid (pk.map Prod.snd = o2.map row2 ∧ o2 = out ++ (l.take j).map (fun c => (a, c))) ∧ OwnI wr (w.heap.size + 1) (some aL) n d (ints (List.range n)) ∧ OwnI wr (w.heap.size + 1) L2 l.length d2 (ints l) ∧ Blk wr w.heap.size 27 #[.int .i64 n, .slice (some aX) n c] ∧ Below (w.heap.size + 1) w30 wr) (fun _ i _ => l.length - (intOf i).toNat)
        case atStart => exact ⟨0, out, A', c', ps, Nat.zero_le _, rfl, rfl, hown3, ⟨hps.out.1, by simp⟩, hLr3, hL2r, hbk3, Below.refl _ _⟩
        case round =>
          clear hown3 hLr3 hL2r hbk3
          obtain ⟨j, o2, A4, c4, pk, hj, rfl, rfl, hown4, hpk, hLr4, hL24, hbk4, hb4⟩ := hrel
          obtain ⟨wi, rfl⟩ : ∃ wi : World, wi = wr := ⟨_, rfl⟩
          have hlo4 := hbk4.lt
          have ho56 : o2.length ≤ 56 := by
            rw [hpk.out.2, List.length_append, List.length_map, List.length_take]
            omega
          by_cases hjl : j < l.length
          · obtain ⟨aM, rfl, hcM⟩ := hL24.ri.nb_at hjl
            have HN := Lib.hid (show o2 ++ [(a, nb l j)] = out ++ (l.take (j + 1)).map (fun c => (a, c)) by
              rw [hpk.out.2, take_nb hjl, List.map_append, List.append_assoc]; rfl)
            obtain ⟨y, hy⟩ : ∃ y, y = nb l j := ⟨_, rfl⟩
            rw [← hy] at hcM HN
            clear hy
            have hrow := (row2_own (w := wi) (g := wi.heap.size) (base := w.heap.size + 1) rfl (by omega) (a : Int) (y : Int)).alloc (.cells #[.slice (some ⟨wi.heap.size, 0, none⟩) 2 2] 22)
            have hcell := cell_lit (w := wi.alloc (.cells #[.int .i64 (a : Int), .int .i64 (y : Int)] 3)) (g := wi.heap.size + 1) (e := 22) (y := .slice (some ⟨wi.heap.size, 0, none⟩) 2 2) (by simp)
            have hap := new_apart hown4 (Nat.le_refl _)
            have HMp := Lib.hid (push2 (p := ((some ⟨wi.heap.size, 0, none⟩, 2), [(a : Int), (y : Int)])) (v := a) (w := y) hpk.out.1 rfl)
            go_wp2_with (at_builtin; refine wpList_pushS rfl (.tmp 44) (.tmp 48) rfl ((some ⟨wi.heap.size, 0, none⟩, 2), [(a : Int), (y : Int)]) rfl ((hown4.alloc _).alloc _) ⟨wi.heap.size + 1, 0, none⟩ rfl hcell hrow (fun q hq j hj e => hap q hq j hj e) (by omega) (by simp; omega) ?_; intro A7 c7 w7 hown7 hg7 hb7)
            go_roundw
            case rel =>
              exact ⟨j + 1, o2 ++ [(a, y)], A7, c7, pk ++ [((some ⟨wi.heap.size, 0, none⟩, 2), [(a : Int), (y : Int)])], by omega, by go_num, by rw [snoc_lenP], by rw [snoc_lenP]; exact hown7, ⟨HMp.out, HN.out⟩, ((hLr4.alloc _).alloc _).kept hg7 (hLr4.ne_top hown4.top), ((hL24.alloc _).alloc _).kept hg7 (hL24.ne_top hown4.top), ((hbk4.alloc _).alloc _).below hb7 (by omega), ((hb4.alloc (by omega) _).alloc (by simp; omega) _).trans hb7⟩
            case measure => simp [intOf]; omega
          · obtain rfl : j = l.length := by omega
            have HE := Lib.hid (show o2 = nxtK Q n a b (a + 1) by rw [hpk.out.2, List.take_length, HS.out])
            go_wp2
            go_roundw
            case rel => exact ⟨a + 1, o2, A4, c4, pk, by omega, by go_num, rfl, hown4, ⟨hpk.out.1, HE.out⟩, hLr4, hbk4, hb3.trans hb4⟩
            case measure => simp [intOf]; omega
      · have d1 : ((v : Int) == (a : Int)) = false := by rw [beq_eq_false_iff_ne]; omega
        have HV := Lib.hid (HBv.out v hva)
        clear hva
        go_wp2
        by_cases hbt : F2.testBit v = true
        · have HS := Lib.hid (show out ++ [(v, b)] = nxtK Q n a b (v + 1) by rw [nxtK, HV.out, if_pos ⟨hb, hbt⟩, hps.out.2])
          have HT := Lib.hid hbt
          clear hbt
          go_wp2
          have hV0 : Up wo wo.drew := (Up.refl _).drew
          go_region_held3 (fun w' => Up wo w' ∧ (∀ b o, b < wo.heap.size → w'.cell? ⟨b, o, none⟩ = wo.cell? ⟨b, o, none⟩) ∧ w'.cell? (aX.add a) = some (.int .i64 (ra : Nat)) ∧ w'.cell? (aX.add b) = some (.int .i64 (rb : Nat))) (first | exact (by exact ⟨hV1, fun _ _ hb => hV1.cell hb, (hV1.cell (by first | assumption | (rw [block_of_add]; assumption))).trans (by assumption), (hV1.cell (by first | assumption | (rw [block_of_add]; assumption))).trans (by assumption)⟩) | exact (by exact ⟨hV0, fun _ _ hb => hV0.cell hb, (hV0.cell (by first | assumption | (rw [block_of_add]; assumption))).trans (by assumption), (hV0.cell (by first | assumption | (rw [block_of_add]; assumption))).trans (by assumption)⟩)) (first | (go_at_call 77; refine (has_up13 hB7 (by omega) HT.out).mono ?_; rintro e w30 ⟨rfl, hb30⟩; have hV1 := Up.then_ hV0 hb30))
          have hU3 := hV1
          have hown3 := hown.up hU3
          have hLr3 := hLr.up hU3
          have hbk3 := hbk.up hU3
          have hl3 := hbk3.lt
          have hb3 := hbw.trans (hU3.mono (by omega) : Below (w.heap.size + 1) wo w30)
          have hrow := (row2_own (w := w30) (g := w30.heap.size) (base := w.heap.size + 1) rfl (by omega) (v : Int) (b : Int)).alloc (.cells #[.slice (some ⟨w30.heap.size, 0, none⟩) 2 2] 22)
          have hcell := cell_lit (w := w30.alloc (.cells #[.int .i64 (v : Int), .int .i64 (b : Int)] 3)) (g := w30.heap.size + 1) (e := 22) (y := .slice (some ⟨w30.heap.size, 0, none⟩) 2 2) (by simp)
          have hap := new_apart hown3 (Nat.le_refl _)
          have HMp := Lib.hid (push2 (p := ((some ⟨w30.heap.size, 0, none⟩, 2), [(v : Int), (b : Int)])) (v := v) (w := b) hps.out.1 rfl)
          clear hyo hca hcb hcL
          go_wp2_with (at_builtin; refine wpList_pushS rfl (.tmp 64) (.tmp 68) rfl ((some ⟨w30.heap.size, 0, none⟩, 2), [(v : Int), (b : Int)]) rfl ((hown3.alloc _).alloc _) ⟨w30.heap.size + 1, 0, none⟩ rfl hcell hrow (fun q hq j hj e => hap q hq j hj e) (by omega) (by simp; omega) ?_; intro A7 c7 w7 hown7 hg7 hb7)
          go_roundw
          case rel =>
            exact ⟨v + 1, out ++ [(v, b)], A7, c7, ps ++ [((some ⟨w30.heap.size, 0, none⟩, 2), [(v : Int), (b : Int)])], by omega, by go_num, by rw [snoc_lenP], by rw [snoc_lenP]; exact hown7, ⟨HMp.out, HS.out⟩, ((hLr3.alloc _).alloc _).kept hg7 (hLr3.ne_top hown3.top), ((hbk3.alloc _).alloc _).below hb7 (by omega), ((hb3.alloc (by omega) _).alloc (by simp; omega) _).trans hb7⟩
          case measure => simp [intOf]; omega
        · have HS := Lib.hid (show out = nxtK Q n a b (v + 1) by rw [nxtK, HV.out, if_neg fun e => hbt e.2, hps.out.2, List.append_nil])
          have HT := Lib.hid (Bool.eq_false_iff.2 hbt)
          clear hbt
          go_wp2
          have hV0 : Up wo wo.drew := (Up.refl _).drew
          go_region_held3 (fun w' => Up wo w' ∧ (∀ b o, b < wo.heap.size → w'.cell? ⟨b, o, none⟩ = wo.cell? ⟨b, o, none⟩) ∧ w'.cell? (aX.add a) = some (.int .i64 (ra : Nat)) ∧ w'.cell? (aX.add b) = some (.int .i64 (rb : Nat))) (first | exact (by exact ⟨hV1, fun _ _ hb => hV1.cell hb, (hV1.cell (by first | assumption | (rw [block_of_add]; assumption))).trans (by assumption), (hV1.cell (by first | assumption | (rw [block_of_add]; assumption))).trans (by assumption)⟩) | exact (by exact ⟨hV0, fun _ _ hb => hV0.cell hb, (hV0.cell (by first | assumption | (rw [block_of_add]; assumption))).trans (by assumption), (hV0.cell (by first | assumption | (rw [block_of_add]; assumption))).trans (by assumption)⟩)) (first | (go_at_call 77; refine (has_up13 hB7 (by omega) HT.out).mono ?_; rintro e w30 ⟨rfl, hb30⟩; have hV1 := Up.then_ hV0 hb30))
          have hU3 := hV1
          go_wp2
          go_roundw
          case rel => exact ⟨v + 1, out, A', c', ps, by omega, by go_num, rfl, hown.up hU3, ⟨hps.out.1, HS.out⟩, hLr.up hU3, hbk.up hU3, hbw.trans (hU3.mono (by omega))⟩
          case measure => simp [intOf]; omega
    · obtain rfl : v = n := by omega
      have HE := Lib.hid (show ps.map Prod.snd = R.map row2 by rw [hps.out.1, hps.out.2, HR.out])
      have HPl := Lib.hid (show ps.length = out.length by have := congrArg List.length hps.out.1; simpa using this)
      go_wp2
      go_ret
      refine ⟨A', c', ps, HE.out, ?_, ?_, hUo⟩
      · rw [HPl.out]; rfl
      · rw [HPl.out]; exact hown.more (by omega)
end Go.Proofs.Ytlcmfangecbdgaa
