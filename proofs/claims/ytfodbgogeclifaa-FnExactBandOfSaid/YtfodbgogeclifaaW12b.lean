/- Walks of chapter 12: the band of an order. -/
import Derived.Test.YtfodbgogeclifaaW2e
import Derived.Test.YtfodbgogeclifaaW6l
namespace Go.Proofs.Ytfodbgogeclifaa
open Go.RowKit
theorem edg_at {R : List (Nat × Nat)} {ps : List RowP} (h : ps.map Prod.snd = R.map row2) {k : Nat} {p : RowP} (hp : ps[k]? = some p) : ∃ q, R[k]? = some q ∧ p.2 = row2 q := by
  have h1 : (ps.map Prod.snd)[k]? = some p.2 := by rw [List.getElem?_map, hp]; rfl
  rw [h, List.getElem?_map] at h1
  rcases hq : R[k]? with _ | q
  · rw [hq] at h1; cases h1
  · rw [hq] at h1
    injection h1 with h1
    exact ⟨q, rfl, h1.symm⟩
theorem bandE_take {o : List Nat} {R : List (Nat × Nat)} {k : Nat} {q : Nat × Nat} (h : R[k]? = some q) : bandE o (R.take (k + 1)) = max (bandE o (R.take k)) (gap o q) := by
  obtain ⟨hk, rfl⟩ := List.getElem?_eq_some_iff.1 h
  rw [List.take_succ_eq_append_getElem hk, bandE_snoc]
set_option maxRecDepth 100000 in
set_option maxHeartbeats 2000000 in
theorem implBandOf_any (N : Int) (A B : Option Addr) (n c m d : Nat) (X l : List Int) (w : World) (hX : RI w A n X) (hL : RI w B m l) (hn : n ≤ 1048576) (hm : m ≤ 1048576) (hmd : m ≤ d) :
    Calls Try.prog 36 #[.agg #[.int .i64 N, .slice A n c], .slice B m d] w fun e w' => e = .returned (.int .i64 (bandOf N X l)) ∧ Below w.heap.size w w' := by
  have hbk := Blk.new w 45 #[.int .i64 N, .slice A n c]
  have hyb := hbk.two
  rcases isOrder_cases N X l with hg | ⟨hg, k, Q, o, rfl, rfl, rfl, h, ho, hol⟩
  · have H1 := Lib.hid hg
    have HR := Lib.hid (bandOf_no hg)
    rw [HR.out]
    clear hg
    go_enter Try.func36, Try.ntmps36
    go_wp2_with fail
    refine (implIsOrder_is (hX.up (by go_grown)) (hL.up (by go_grown)) (by omega) (by omega) hmd H1.out).mono ?_
    rintro e w1 ⟨rfl, hb1⟩
    have hU1 : Up w w1 := Up.then_ (by go_grown) hb1
    go_wp2
    go_ret
    exact ⟨rfl, hU1⟩
  · have e1 : n = k := by have := hX.1; rw [ints_len, h.len] at this; exact this.symm
    have e2 : m = k := by have := hL.1; rw [ints_len, hol] at this; exact this.symm
    subst e1 e2
    have H1 := Lib.hid hg
    have HR := Lib.hid (show bandOf m (ints Q) (ints o) = ((bandE o (edges Q m) : Nat) : Int) by rw [bandOf_ok hg, hol, band_eq h ho hol])
    have h7 := h.le
    obtain ⟨R, hR⟩ : ∃ R, R = edges Q m := ⟨_, rfl⟩
    have HE := Lib.hid (show edgesOf m (ints Q) = R by rw [edgesOf_ok h, hR])
    have Hmem := Lib.hid (fun (j : Nat) (q : Nat × Nat) (hq : R[j]? = some q) => (by
      have := mem_edgK.1 (show q ∈ edgK Q m m by rw [show edgK Q m m = R from hR.symm]; exact List.mem_of_getElem? hq)
      exact ⟨by omega, by omega, by omega⟩ : q.1 < m ∧ q.2 < m ∧ q.1 ≠ q.2))
    have Hgap := Lib.hid (fun (j : Nat) (q : Nat × Nat) (hq : R[j]? = some q) => (gap_lt ho hol (show q ∈ edges Q m by rw [← hR]; exact List.mem_of_getElem? hq)))
    have Hpl := Lib.hid (fun v (hv : v < m) => (⟨idxZ_place (ho.all hol hv) ho, by have := place_lt (ho.all hol hv); omega⟩ : idxZ (ints o) (v : Int) = (place o v : Nat) ∧ place o v < m))
    have Hb := Lib.hid (fun j => (bandE_le (o := o) (l := R.take j) (b := m) fun p hp => by
      have := gap_lt ho hol (show p ∈ edges Q m by rw [← hR]; exact List.mem_of_mem_take hp)
      omega))
    have hR49 : R.length ≤ 49 := by rw [hR]; exact edges_len Q h7
    rw [← hR] at HR
    rw [HR.out]
    clear hg hR HR
    go_enter Try.func36, Try.ntmps36
    go_wp2_with fail
    refine (implIsOrder_is (hX.up (by go_grown)) (hL.up (by go_grown)) (by omega) (by omega) hmd H1.out).mono ?_
    rintro e w1 ⟨rfl, hb1⟩
    have hU1 : Up w w1 := Up.then_ (by go_grown) hb1
    replace hX := hX.up hU1
    replace hL := hL.up hU1
    have hyb1 := (hbk.up hb1).two
    have He := Lib.hid ((implEdgesOf_any m A m c (ints Q) w1 hX (by omega)).mono fun _ _ h => (by rw [HE.out] at h; exact h : GivesS (R.map row2) w1 _ _))
    go_wp2_with (go_at_call 77; refine He.out.mono ?_; rintro e w2 ⟨A2, c2, ps, hps, rfl, hown, hb2⟩; have Hps := Lib.hid hps; clear hps He)
    have hU2 := Up.then_ hU1 hb2
    have hL2 := hL.up hb2
    have Hlen := Lib.hid (show ps.length = R.length by have := congrArg List.length Hps.out; simpa using this)
    have hl49 : ps.length ≤ 49 := by rw [Hlen.out]; exact hR49
    go_loopw [5, 17] (fun s i wr => ∃ k : Nat, k ≤ ps.length ∧ i = .int .i64 k ∧ s = .int .i64 (bandE o (R.take k) : Nat) ∧ Up w2 wr) (fun _ i _ => ps.length - (intOf i).toNat)
    case atStart => exact ⟨0, Nat.zero_le _, rfl, rfl, Up.refl _⟩
    case round =>
      obtain ⟨k, hk, rfl, rfl, hb⟩ := hrel
      obtain ⟨wo, rfl⟩ : ∃ wo : World, wo = wr := ⟨_, rfl⟩
      by_cases hkl : k < ps.length
      · obtain ⟨g, p, rfl, hpk, hcp, hrow⟩ := (hown.up hb).at_ hkl
        obtain ⟨q, hqk, hpq⟩ := edg_at Hps.out hpk
        have hmq := Hmem.out k q hqk
        have HS := Lib.hid (bandE_take (o := o) hqk)
        have hgq := Hgap.out k q hqk
        have p1 := Hpl.out q.1 hmq.1
        have p2 := Hpl.out q.2 hmq.2.1
        have hbb := Hb.out k
        obtain ⟨v, x⟩ := q
        obtain ⟨⟨Bp, cp⟩, lp⟩ := p
        obtain rfl : lp = [(v : Int), (x : Int)] := hpq
        dsimp only at hmq hrow p1 p2 hgq
        have hcp2 : wo.cell? ⟨g, k, none⟩ = some (.slice Bp 2 cp) := by rw [add_0_] at hcp; exact hcp
        obtain ⟨gb, rfl⟩ := hrow.form (by simp)
        have c0 : wo.cell? ⟨gb, 0, none⟩ = some (.int .i64 (v : Int)) := by
          obtain ⟨_, e0, _, c0⟩ := hrow.ri.at_ (k := 0) (by simp)
          injection e0 with e0
          subst e0
          exact c0
        have c1 : wo.cell? ⟨gb, 1, none⟩ = some (.int .i64 (x : Int)) := by
          obtain ⟨_, e0, _, c0⟩ := hrow.ri.at_ (k := 1) (by simp)
          injection e0 with e0
          subst e0
          exact c0
        have hgap : gap o (v, x) = (place o v - place o x) + (place o x - place o v) := rfl
        rw [hgap] at HS hgq
        obtain ⟨i, hi⟩ : ∃ i, i = place o v := ⟨_, rfl⟩
        obtain ⟨j, hj⟩ : ∃ j, j = place o x := ⟨_, rfl⟩
        rw [← hi] at HS hgq p1
        rw [← hj] at HS hgq p2
        have P1 := Lib.hid p1.1
        have P2 := Lib.hid p2.1
        have hir := p1.2
        have hjr := p2.2
        have hLo := hL2.up hb
        obtain ⟨y, hy⟩ : ∃ y, y = bandE o (R.take k) := ⟨_, rfl⟩
        rw [← hy] at HS hbb ⊢
        have hvx : (v : Int) ≠ (x : Int) := by omega
        clear p1 p2 hi hj hgap hcp hrow hpk hqk hy
        go_wp2_with fail
        go_quiet ((first | (go_at_call_of 78 (Value.int .i64 (v : Int)); exact Calls.quiet_of_same (slIndex_is hLo (by omega) P1.out)) | (go_at_call_of 78 (Value.int .i64 (x : Int)); exact Calls.quiet_of_same (slIndex_is hLo (by omega) P2.out))))
        have s1 : wrap64 ((i : Int) - (j : Int)) = (i : Int) - (j : Int) := IntWalk.wrap64_in _ ⟨by omega, by omega⟩
        have s2 : wrap64 ((j : Int) - (i : Int)) = (j : Int) - (i : Int) := IntWalk.wrap64_in _ ⟨by omega, by omega⟩
        have HM := Lib.hid (show (if (if (y : Int) < (i : Int) - (j : Int) then (i : Int) - (j : Int) else (y : Int)) < (j : Int) - (i : Int) then (j : Int) - (i : Int) else if (y : Int) < (i : Int) - (j : Int) then (i : Int) - (j : Int) else (y : Int)) = ((max y (i - j + (j - i)) : Nat) : Int) by
          repeat' split
          all_goals omega)
        go_wp2_with fail
        go_roundw
        case rel => exact ⟨k + 1, by omega, by go_num, by rw [HS.out, HM.out], below_drewN hb _⟩
        case measure => simp [intOf]; omega
      · obtain rfl : k = ps.length := by omega
        have HT := Lib.hid (show R.take ps.length = R by rw [Hlen.out, List.take_length])
        rw [HT.out]
        go_wp2
        go_ret
        exact ⟨rfl, Up.then_ hU2 hb⟩
set_option maxRecDepth 100000 in
set_option maxHeartbeats 2000000 in
theorem specBandOf_any (N : Int) (A B : Option Addr) (n c m d : Nat) (X l : List Int) (w : World) (hX : RI w A n X) (hL : RI w B m l) (hn : n ≤ 1048576) (hm : m ≤ 1048576) :
    Calls Try.prog 35 #[.agg #[.int .i64 N, .slice A n c], .slice B m d] w fun e w' => e = .returned (.int .i64 (bandOf N X l)) ∧ Below w.heap.size w w' := by
  have hbk := Blk.new w 45 #[.int .i64 N, .slice A n c]
  rcases isOrder_cases N X l with hg | ⟨hg, k, Q, o, rfl, rfl, rfl, h, ho, hol⟩
  · have H1 := Lib.hid hg
    have HR := Lib.hid (bandOf_no hg)
    rw [HR.out]
    clear hg
    go_enter Try.func35, Try.ntmps35
    go_wp2_with fail
    refine (specIsOrder_is (hX.up (by go_grown)) (hL.up (by go_grown)) (by omega) (by omega) H1.out).mono ?_
    rintro e w1 ⟨rfl, hb1⟩
    have hU1 : Up w w1 := Up.then_ (by go_grown) hb1
    go_wp2
    go_ret
    exact ⟨rfl, hU1⟩
  · have e1 : n = k := by have := hX.1; rw [ints_len, h.len] at this; exact this.symm
    have e2 : m = k := by have := hL.1; rw [ints_len, hol] at this; exact this.symm
    subst e1 e2
    have H1 := Lib.hid hg
    have HR := Lib.hid (show bandOf m (ints Q) (ints o) = ((bandI Q o m : Nat) : Int) by rw [bandOf_ok hg, hol])
    have h7 := h.le
    have Hn := Lib.hid (fun i (hi : i < m) => ho.at_ (j := i) (by omega))
    have Hb := Lib.hid (fun i (hi : i ≤ m) => ((bandI_spec Q o m i).2 fun a _ b _ _ => by omega : bandI Q o i ≤ m))
    have HbJ := Lib.hid (fun i (hi : i < m) k (hk : k ≤ i) => ((bandJ_spec Q o i (bandI Q o i) m k).2 ⟨(bandI_spec Q o m i).2 fun a _ b _ _ => by omega, fun j _ _ => by omega⟩ : bandJ Q o i (bandI Q o i) k ≤ m))
    rw [HR.out]
    clear hg HR
    obtain ⟨a, rfl, _, _⟩ := hX.addr h.pos
    obtain ⟨bd, rfl, _, _⟩ := hL.addr h.pos
    go_enter Try.func35, Try.ntmps35
    go_wp2_with fail
    refine (specIsOrder_is (hX.up (by go_grown)) (hL.up (by go_grown)) (by omega) (by omega) H1.out).mono ?_
    rintro e w1 ⟨rfl, hb1⟩
    have hU1 : Up w w1 := Up.then_ (by go_grown) hb1
    replace hX := hX.up hU1
    replace hL := hL.up hU1
    have hbk1 := hbk.up hb1
    go_wp2_with fail
    go_loopw [5, 6] (fun s i wr => ∃ k : Nat, k ≤ m ∧ i = .int .i64 k ∧ s = .int .i64 (bandI Q o k : Nat) ∧ Up w1 wr) (fun _ i _ => m - (intOf i).toNat)
    case atStart => exact ⟨0, Nat.zero_le _, rfl, rfl, Up.refl _⟩
    case round =>
      obtain ⟨i, hi, rfl, rfl, hb⟩ := hrel
      obtain ⟨wo, rfl⟩ : ∃ wo : World, wo = wr := ⟨_, rfl⟩
      by_cases him : i < m
      · have HI := Lib.hid (show bandI Q o (i + 1) = bandJ Q o i (bandI Q o i) i from rfl)
        have HbJi := Lib.hid (HbJ.out i him)
        obtain ⟨y, hy⟩ : ∃ y, y = bandI Q o i := ⟨_, rfl⟩
        rw [← hy] at HI HbJi ⊢
        clear hy
        go_wp2_with fail
        go_loopw [5, 7] (fun s j wr => ∃ k : Nat, k ≤ i ∧ j = .int .i64 k ∧ s = .int .i64 (bandJ Q o i y k : Nat) ∧ Up w1 wr) (fun _ j _ => i - (intOf j).toNat)
        case atStart => exact ⟨0, Nat.zero_le _, rfl, rfl, hb⟩
        case round =>
          obtain ⟨j, hj, rfl, rfl, hb2⟩ := hrel
          obtain ⟨wi, rfl⟩ : ∃ wi : World, wi = wr := ⟨_, rfl⟩
          by_cases hji : j < i
          · have hjm : j < m := by omega
            have hXi := hX.up hb2
            have hLi := hL.up hb2
            have hyi := (hbk1.up hb2).two
            have hli := (hbk1.up hb2).lt
            have hc1 := hLi.nbs him
            have hc2 := hLi.nbs (show j < m by omega)
            have habs : bd.block < wi.heap.size := by obtain ⟨_, e, h1, _⟩ := hLi.addr (by omega); injection e with e; subst e; exact h1
            have hv1 := Hn.out i him
            have hv2 := Hn.out j (by omega)
            have hbj := HbJi.out j hj
            have HS := Lib.hid (show bandJ Q o i y (j + 1) = if edge Q (nb o i) (nb o j) then max (bandJ Q o i y j) (i - j) else bandJ Q o i y j from rfl)
            obtain ⟨z, hz⟩ : ∃ z, z = bandJ Q o i y j := ⟨_, rfl⟩
            rw [← hz] at HS hbj ⊢
            clear hz
            rcases Bool.eq_false_or_eq_true (edge Q (nb o i) (nb o j)) with e1 | e1
            · have E1 := Lib.hid (show (nb Q (nb o i)).testBit (nb o j) = true from e1)
              rw [e1, if_pos rfl] at HS
              clear e1
              have s1 : wrap64 ((i : Int) - (j : Int)) = (i : Int) - (j : Int) := IntWalk.wrap64_in _ ⟨by omega, by omega⟩
              have HM := Lib.hid (show (if (z : Int) < (i : Int) - (j : Int) then (i : Int) - (j : Int) else (z : Int)) = ((max z (i - j) : Nat) : Int) by split <;> omega)
              go_wp2
              have hV0 : Up wi wi.drew := (Up.refl _).drew
              refine wp_region_calm (S := (fun w' => Up wi w' ∧ (∀ b o, b < wi.heap.size → w'.cell? ⟨b, o, none⟩ = wi.cell? ⟨b, o, none⟩) ∧ w'.cell? (bd.add i) = some (.int .i64 (nb o i)) ∧ w'.cell? (bd.add j) = some (.int .i64 (nb o j)))) (by kernel_rfl) (by kernel_rfl) (by exact ⟨hV0, fun _ _ hb => hV0.cell hb, (hV0.cell (by first | assumption | (rw [block_of_add]; assumption))).trans (by assumption), (hV0.cell (by first | assumption | (rw [block_of_add]; assumption))).trans (by assumption)⟩) ?_
              repeat (first | (refine CalmSeq.cons undef (Calm.off (by rfl)) ?_; (try simp only [Act.put, List.setIfInBounds_toArray, List.set_cons_zero, List.set_cons_succ])) | (refine CalmSeq.cons ?_ (Calm.val (by rfl) ?_) ?_; rotate_left; (intro wC hSw; (try dsimp only at hSw); go_simp; done); (try simp only [Act.put, List.setIfInBounds_toArray, List.set_cons_zero, List.set_cons_succ])) | (refine CalmSeq.cons ?_ (Calm.val (by rfl) ?_) ?_; rotate_left; (intro wC hSw; (try dsimp only at hSw); go_simp; with_reducible rfl); (try simp only [Act.put, List.setIfInBounds_toArray, List.set_cons_zero, List.set_cons_succ])) | ((refine CalmSeq.cons ?_ (Calm.call (f := ?_) (args := ?_) (by rfl) ?_ (fun wC hSw => ?_)) ?_; rotate_left 3; (intro wC; go_simp; (refine ⟨?_, ?_⟩ <;> with_reducible rfl)); (go_at_call 76; (with_reducible refine (l2Edge_is (hXi.up hSw.1) h hv1 hv2 E1.out).mono ?_); rintro e wD ⟨rfl, hbD⟩; apply And.intro; (with_reducible rfl); (have hUD := Up.then_ hSw.1 hbD; exact ⟨hUD, fun _ _ hb => hUD.cell hb, (hUD.cell (by first | assumption | (rw [block_of_add]; assumption))).trans (by assumption), (hUD.cell (by first | assumption | (rw [block_of_add]; assumption))).trans (by assumption)⟩))); (try simp only [Act.put, List.setIfInBounds_toArray, List.set_cons_zero, List.set_cons_succ])))
              intro w2 hS2
              have hU2 : Up wi w2 := hS2.1
              clear hS2 hV0
              go_wp2
              go_roundw
              case rel => exact ⟨j + 1, by omega, by go_num, by rw [HS.out, HM.out], Up.then_ hb2 hU2⟩
              case measure => simp [intOf]; omega
            · have E1 := Lib.hid (show (nb Q (nb o i)).testBit (nb o j) = false from e1)
              rw [e1, if_neg Bool.false_ne_true] at HS
              clear e1
              go_wp2
              have hV0 : Up wi wi.drew := (Up.refl _).drew
              refine wp_region_calm (S := (fun w' => Up wi w' ∧ (∀ b o, b < wi.heap.size → w'.cell? ⟨b, o, none⟩ = wi.cell? ⟨b, o, none⟩) ∧ w'.cell? (bd.add i) = some (.int .i64 (nb o i)) ∧ w'.cell? (bd.add j) = some (.int .i64 (nb o j)))) (by kernel_rfl) (by kernel_rfl) (by exact ⟨hV0, fun _ _ hb => hV0.cell hb, (hV0.cell (by first | assumption | (rw [block_of_add]; assumption))).trans (by assumption), (hV0.cell (by first | assumption | (rw [block_of_add]; assumption))).trans (by assumption)⟩) ?_
              repeat (first | (refine CalmSeq.cons undef (Calm.off (by rfl)) ?_; (try simp only [Act.put, List.setIfInBounds_toArray, List.set_cons_zero, List.set_cons_succ])) | (refine CalmSeq.cons ?_ (Calm.val (by rfl) ?_) ?_; rotate_left; (intro wC hSw; (try dsimp only at hSw); go_simp; done); (try simp only [Act.put, List.setIfInBounds_toArray, List.set_cons_zero, List.set_cons_succ])) | (refine CalmSeq.cons ?_ (Calm.val (by rfl) ?_) ?_; rotate_left; (intro wC hSw; (try dsimp only at hSw); go_simp; with_reducible rfl); (try simp only [Act.put, List.setIfInBounds_toArray, List.set_cons_zero, List.set_cons_succ])) | ((refine CalmSeq.cons ?_ (Calm.call (f := ?_) (args := ?_) (by rfl) ?_ (fun wC hSw => ?_)) ?_; rotate_left 3; (intro wC; go_simp; (refine ⟨?_, ?_⟩ <;> with_reducible rfl)); (go_at_call 76; (with_reducible refine (l2Edge_is (hXi.up hSw.1) h hv1 hv2 E1.out).mono ?_); rintro e wD ⟨rfl, hbD⟩; apply And.intro; (with_reducible rfl); (have hUD := Up.then_ hSw.1 hbD; exact ⟨hUD, fun _ _ hb => hUD.cell hb, (hUD.cell (by first | assumption | (rw [block_of_add]; assumption))).trans (by assumption), (hUD.cell (by first | assumption | (rw [block_of_add]; assumption))).trans (by assumption)⟩))); (try simp only [Act.put, List.setIfInBounds_toArray, List.set_cons_zero, List.set_cons_succ])))
              intro w2 hS2
              have hU2 : Up wi w2 := hS2.1
              clear hS2 hV0
              go_wp2
              go_roundw
              case rel => exact ⟨j + 1, by omega, by go_num, by rw [HS.out], Up.then_ hb2 hU2⟩
              case measure => simp [intOf]; omega
          · obtain rfl : j = i := by omega
            rw [← HI.out]
            go_wp2
            go_roundw
            case rel => exact ⟨j + 1, by omega, by go_num, rfl, hb2⟩
            case measure => simp [intOf]; omega
      · obtain rfl : i = m := by omega
        go_wp2
        go_ret
        exact ⟨rfl, Up.then_ hU1 hb⟩
end Go.Proofs.Ytfodbgogeclifaa
