/- Walks of chapter 13: OrientationOf. -/
import Derived.Test.YtlcmfangecbdgaaW13o
import Derived.Test.YtlcmfangecbdgaaW13v
import Derived.Deep.RegionWith
import Derived.Deep.Cut
import Derived.Deep.CutRange
namespace Go.Proofs.Ytlcmfangecbdgaa
open Go.RowKit
theorem implEdgesOf_is {A : Option Addr} {n c : Nat} {Q : List Nat} {w : World} (hX : RI w A n (ints Q)) (h : GOk n Q) :
    Calls Try.prog 90 #[.agg #[.int .i64 n, .slice A n c]] w fun e w' => ∃ Ae ce pe, pe.map Prod.snd = (edges Q n).map row2 ∧ e = .returned (.slice Ae (edges Q n).length ce) ∧ OwnS w' w.heap.size Ae (edges Q n).length ce pe ∧ Below w.heap.size w w' := by
  have h7 := h.le
  refine (implEdgesOf_any n A n c (ints Q) w hX (by omega)).mono ?_
  rintro e w' ⟨Ae, ce, pe, hpe, rfl, ho, hb⟩
  rw [edgesOf_ok h] at hpe
  have hl : pe.length = (edges Q n).length := by have := congrArg List.length hpe; simpa using this
  rw [hl] at ho ⊢
  exact ⟨Ae, ce, pe, hpe, rfl, ho, hb⟩
theorem copyGraph_n (N : Int) (A : Option Addr) (n c : Nat) (X : List Int) (w : World) (hX : RI w A n X) (hn : n ≤ 1048576) :
    Calls Try.prog 89 #[.agg #[.int .i64 N, .slice A n c]] w fun e w' => ∃ B d, e = .returned (.agg #[.int .i64 N, .slice B n d]) ∧ OwnI w' w.heap.size B n d X ∧ Below w.heap.size w w' := by
  refine (copyGraph_any N A n c X w hX hn).mono ?_
  rintro e w' ⟨B, d, rfl, hown, hb⟩
  rw [hX.1] at hown ⊢
  exact ⟨B, d, rfl, hown, hb⟩
theorem OwnS.drewN {w : World} {base n c : Nat} {A : Option Addr} {ps : List RowP} (h : OwnS w base A n c ps) (k : Nat) : OwnS (w.drewN k) base A n c ps := ⟨h.top, h.rows, h.apart⟩
theorem Blk.intAt {w : World} {g : Nat} {t : TypeId} {zs : List Int} {j : Nat} (h : Blk w g t (zs.map (Value.int .i64)).toArray) (hj : j < zs.length) : w.cell? ⟨g, j, none⟩ = some (.int .i64 (zs.getD j 0)) := by
  rw [h.cell]; simp [List.getElem?_eq_getElem hj]
theorem Blk.intSet {w : World} {g : Nat} {t : TypeId} {zs : List Int} (h : Blk w g t (zs.map (Value.int .i64)).toArray) (x : Nat) (u : Int) : Blk (w.setCell ⟨g, x, none⟩ (.int .i64 u)) g t ((zs.set x u).map (Value.int .i64)).toArray := by
  have := h.set_ x (.int .i64 u)
  rw [List.map_set]
  simpa using this
set_option maxRecDepth 100000 in
set_option maxHeartbeats 4000000 in
theorem implOrientationOf_flag (N : Int) (A : Option Addr) (n c : Nat) (X : List Int) (w : World) (hX : RI w A n X) (hn : n ≤ 1048576) :
    Calls Try.prog 69 #[.agg #[.int .i64 N, .slice A n c]] w fun e w' => ∃ A' k c', e = .returned (.tuple #[.agg #[.slice A' k c'], .bool (isComp N X)]) ∧ Below w.heap.size w w' := by
  have hbk := (Blk.new w 27 #[.int .i64 N, .slice A n c]).alloc (.cells #[.slice none 0 0] 61)
  have hbr := Blk.new_at (w := w.alloc (.cells #[.int .i64 N, .slice A n c] 27)) (t := 61) (cs := #[.slice none 0 0]) (g := w.heap.size + 1) (by simp)
  have hU0 : Up w ((w.alloc (.cells #[.int .i64 N, .slice A n c] 27)).alloc (.cells #[.slice none 0 0] 61)) := by go_grown
  have hl0 : w.heap.size + 2 = ((w.alloc (.cells #[.int .i64 N, .slice A n c] 27)).alloc (.cells #[.slice none 0 0] 61)).heap.size := by simp
  obtain ⟨W, hW⟩ : ∃ W, W = (w.alloc (.cells #[.int .i64 N, .slice A n c] 27)).alloc (.cells #[.slice none 0 0] 61) := ⟨_, rfl⟩
  rw [← hW] at hbk hbr hU0 hl0
  have hX0 := hX.up hU0
  have hy0 := hbk.two
  have hl1 := hbk.lt
  have hmk := make_ints n hn
  go_enter Try.func69, Try.ntmps69
  go_wp2
  rw [← hW]
  clear hW
  go_cut [4, 5] from 15 (fun p q wx => ∃ (bH bT gT d : Nat) (B : Option Addr), p = .pointer (some ⟨bH, 0, none⟩) ∧ q = .pointer (some ⟨bT, 0, none⟩) ∧ Blk wx bH 27 #[.int .i64 N, .slice B n d] ∧ OwnI wx W.heap.size B n d X ∧ Blk wx bT 61 #[.slice (some ⟨gT, 0, none⟩) n n] ∧ Blk wx gT 3 (zeros n) ∧ (∀ g, (Value.slice B n d).ownBlock = some g → g ≠ gT) ∧ W.heap.size ≤ bH ∧ W.heap.size ≤ bT ∧ W.heap.size ≤ gT ∧ Up W wx)
  case first =>
    have hl2 := hbr.lt
    refine oriRegion N A n c X w W _ hX0 hn hbk hbr (by omega) rfl (by simp) rfl (by kernel_rfl) (by kernel_rfl) ?_
    intro bH bT gT d B wx hH hO hT hM hne hzH hzT hzM hU
    (try simp only [Act.put]); (try simp only [List.setIfInBounds_toArray]); (try simp only [List.set_cons_succ]); (try simp only [List.set_cons_zero])
    go_wp2_with fail
    go_meet
    exact ⟨bH, bT, gT, d, B, rfl, rfl, hH, hO, hT, hM, hne, hzH, hzT, hzM, hU⟩
  case rest =>
    obtain ⟨bH, bT, gT, d, B, rfl, rfl, hH, hO, hT, hM, hne, hzH, hzT, hzM, hUv⟩ := hcut
    replace hbk := hbk.up hUv
    replace hbr := hbr.up hUv
    replace hU0 := Up.then_ hU0 hUv
    have hXc := hX.up hU0
    have hl2 : w.heap.size + 1 < wc.heap.size := hbr.lt
    have hyc := hbk.two
    clear hy0 hX0 hmk
    rcases isGraph_cases N X with hg | ⟨k, Q, rfl, rfl, h⟩
    · have HG := Lib.hid hg
      have HC := Lib.hid (isComp_no hg)
      clear hg
      go_wp2_with fail
      refine (implIsGraph_is hXc (by omega) HG.out).mono ?_
      rintro e w1 ⟨rfl, hb1⟩
      have hbr1 := hbr.up hb1
      have e1 := hbr1.one
      have f1 := hbr1.frozen 0
      have hfin := (hbr1.set_ 0 (.slice none 0 0)).one
      have hbf := (Up.then_ hU0 hb1).setCell (p := ⟨w.heap.size + 1, 0, none⟩) (by simp) (.slice none 0 0)
      go_wp2
      generalize w1.setCell ⟨w.heap.size + 1, 0, none⟩ (.slice none 0 0) = Wf at hfin hbf ⊢
      refine bodyPost_ret (v := .tuple #[.agg #[.slice none 0 0], .bool false]) ?_ rfl ?_
      · simp [results, Try.results69, go_sem, hfin]
      exact ⟨none, 0, 0, by rw [HC.out], hbf⟩
    · obtain rfl : n = k := by rw [← hX.1, ints_len, h.len]
      have h7 := h.le
      have hpos := h.pos
      obtain ⟨gB, rfl⟩ := hO.form (by omega)
      have hBT : gB ≠ gT := hne gB rfl
      have hzB := (hO.block gB rfl).1
      clear hne
      obtain ⟨R, hR⟩ : ∃ R, R = orB n (phi Q n) Q := ⟨_, rfl⟩
      have HR := Lib.hid hR.symm
      have HC := Lib.hid (show isComp n (ints Q) = R by rw [isComp_ok h, hR])
      clear hR
      have HG := Lib.hid h.is
      have HzT := Lib.hid (show zeros n = ((List.replicate n (0 : Int)).map (Value.int .i64)).toArray by simp [zeros])
      rw [HzT.out] at hM
      go_wp2_with fail
      refine (implIsGraph_is hXc (by omega) HG.out).mono ?_
      rintro e w1 ⟨rfl, hb1⟩
      have hH1 := hH.up hb1
      have hyH1 := hH1.two
      go_wp2_with fail
      refine (implEdgesOf_is (hO.ri.up hb1) h).mono ?_
      rintro e w2 ⟨Ae, ce, pe, hpe, rfl, hoe, hb2⟩
      have hb12 := Up.then_ hb1 hb2
      have hH2 := hH.up hb12
      have hO2 := hO.up hb12
      have hT2 := hT.up hb12
      have hM2 := hM.up hb12
      have hbk2 := hbk.up hb12
      have hbr2 := hbr.up hb12
      have hU2 := Up.then_ hU0 hb12
      have hlW2 : W.heap.size ≤ w2.heap.size := Nat.le_trans hUv.size hb12.size
      have HPe := Lib.hid hpe
      clear hH hO hT hM hbk hbr hyc hyH1 hH1 hXc hb1 hb2 hpe hU0
      go_wp2_with fail
      go_loopg [6] (phi Q n) (fun g es wr => ∃ (Qh : List Nat) (Ae : Option Addr) (ce bs : Nat) (pe : List RowP) (zs : List Int), es = .slice Ae (edges Qh n).length ce ∧ OwnS wr bs Ae (edges Qh n).length ce pe ∧ Hid (pe.map Prod.snd = (edges Qh n).map row2) ∧ OwnI wr W.heap.size (some ⟨gB, 0, none⟩) n d (ints Qh) ∧ GOk n Qh ∧ Hid (phi Qh n ≤ g ∧ orB n g Qh = R) ∧ zs.length = n ∧ Blk wr gT 3 (zs.map (Value.int .i64)).toArray ∧ Blk wr bH 27 #[.int .i64 n, .slice (some ⟨gB, 0, none⟩) n d] ∧ Blk wr bT 61 #[.slice (some ⟨gT, 0, none⟩) n n] ∧ Blk wr w.heap.size 27 #[.int .i64 n, .slice A n c] ∧ Blk wr (w.heap.size + 1) 61 #[.slice none 0 0] ∧ Below W.heap.size w2 wr)
      case atStart => exact ⟨Q, Ae, ce, w1.heap.size, pe, List.replicate n 0, rfl, hoe, HPe.out, hO2, h, ⟨Nat.le_refl _, HR.out⟩, by simp, hM2, hH2, hT2, hbk2, hbr2, Below.refl _ _⟩
      case round =>
        clear hH2 hO2 hT2 hM2 hbk2 hbr2 hoe
        obtain ⟨Qh, Ae2, ce2, bs, pe2, zs, rfl, hoe, hpe, hO, hG, hR2, hzl, hM, hH, hT, hbk, hbr, hb⟩ := hrel
        obtain ⟨wo, rfl⟩ : ∃ wo : World, wo = wr := ⟨_, rfl⟩
        have hyH := hH.two
        have hlH := hH.lt
        have hUo : Up w wo := hU2.trans (hb.mono (by omega))
        by_cases he : 0 < (edges Qh n).length
        · obtain ⟨a, b, h0, ha, hbn, hab⟩ := edges_first he
          obtain ⟨gE, r, dr, rfl, hkl, hcE, hr0, hr1, hlE, hlr, hrE, hpkE⟩ := hoe.arc hpe.out he
          have e0 : (edges Qh n)[0] = (a, b) := by rw [← prAt_eq he]; exact h0
          rw [e0] at hr0 hr1
          simp only at hr0 hr1
          have hps := phi_step hG ha hbn hab
          obtain ⟨g', rfl⟩ : ∃ g', gk = g' + 1 := ⟨gk - 1, by have := hR2.out.1; omega⟩
          have HP := Lib.hid (show phi (delL Qh (frcA Qh n a b) (frcA Qh n a b).length) n ≤ g' by have := hR2.out.1; omega)
          have HNo := Lib.hid (fun hm => (hR2.out.2 ▸ orB_no (f := g') he h0 hm : R = false))
          have HYes := Lib.hid (fun hm => (hR2.out.2 ▸ (orB_step (f := g') he h0 hm).symm : orB n g' (delL Qh (frcA Qh n a b) (frcA Qh n a b).length) = R))
          have HFg := Lib.hid (frcA_good (Q := Qh) ha hbn)
          obtain ⟨me, hme⟩ : ∃ me, me = (edges Qh n).length := ⟨_, rfl⟩
          rw [← hme] at he ⊢
          clear hrE hpkE hme hps e0 hkl h0 hoe hpe hR2
          have HG := Lib.hid hG
          obtain ⟨F, hF⟩ : ∃ F, F = frcA Qh n a b := ⟨_, rfl⟩
          rw [← hF] at HP HNo HYes HFg
          have HF := Lib.hid hF
          clear hF
          go_wp2_with fail
          go_quiet (fail)
          go_wp2_with fail
          refine (forced_any (some ⟨gB, 0, none⟩) n d a b Qh _ (hO.ri.drewN _) hG ha hbn).mono ?_
          rintro e w3 ⟨A3, c3, ps, v3, hps, rfl, hA3, hb3⟩
          have HPs := Lib.hid (show ps.map Prod.snd = F.map row2 by rw [HF.out]; exact hps)
          have hM0 := hM
          have hO0 := hO
          replace hb3 : Up wo w3 := Up.then_ (below_drewN (Up.refl _) _) hb3
          replace hA3 : OwnS w3 wo.heap.size A3 ps.length c3 ps := hA3
          replace hO := hO.up hb3
          replace hM := hM.up hb3
          replace hH := hH.up hb3
          replace hT := hT.up hb3
          replace hbk := hbk.up hb3
          replace hbr := hbr.up hb3
          have hUw3 := Up.then_ hUo hb3
          have hb23 := hb.trans (hb3.mono (by have := hb.size; omega) : Below W.heap.size wo w3)
          have hWo : W.heap.size ≤ wo.heap.size := by have := hb.size; omega
          have hl3 := hb3.size
          clear hps hUo hyH hcE hr0 hr1 hb
          obtain ⟨m, hm⟩ : ∃ m, m = ps.length := ⟨_, rfl⟩
          have HM := Lib.hid (show F.length = m by have := congrArg List.length HPs.out; simp at this; omega)
          have hm49 : m ≤ 49 := by rw [← HM.out]; exact HFg.out.len h7
          rw [← hm] at hA3 ⊢
          clear hm
          have hA4 := hA3.alloc (.cells #[.int .i64 (b : Int), .int .i64 (a : Int)] 3)
          have hri4 := (Blk.new w3 3 #[.int .i64 (b : Int), .int .i64 (a : Int)]).ri (xs := [(b : Int), (a : Int)]) (n := 2) rfl
          have hU4 : Up w3 (w3.alloc (.cells #[.int .i64 (b : Int), .int .i64 (a : Int)] 3)) := by go_grown
          obtain ⟨z, hz⟩ : ∃ z, fndZ F (b, a) = z := ⟨_, rfl⟩
          have HZ := Lib.hid hz
          have hzd := fndZ_neg F (b, a)
          rw [hz] at hzd
          clear hz
          go_wp2_with fail
          refine (indexOf_is (xy := (b, a)) hA4 HPs.out (by omega) hri4 HZ.out).mono ?_
          rintro e w5 ⟨rfl, hb5⟩
          replace hb5 : Up w3 w5 := Up.then_ hU4 hb5
          replace hA3 := hA3.up hb5
          replace hO := hO.up hb5
          replace hM := hM.up hb5
          replace hH := hH.up hb5
          replace hT := hT.up hb5
          replace hbk := hbk.up hb5
          replace hbr := hbr.up hb5
          have hUw5 := Up.then_ hUw3 hb5
          have hb25 := hb23.trans (hb5.mono (by omega) : Below W.heap.size w3 w5)
          have hl5 := hb5.size
          clear hA4 hri4 hU4 hb23 hUw3
          by_cases hmem : (b, a) ∈ F
          · have hz0 : ¬ z < 0 := by rw [decide_eq_true hmem] at hzd; exact of_decide_eq_false hzd
            have hz1 : decide (0 ≤ z) = true := decide_eq_true (by omega)
            have HR2 := Lib.hid (HNo.out hmem)
            clear hzd hmem HNo HYes
            have e1 := hbr.one
            have f1 := hbr.frozen 0
            have hfin := (hbr.set_ 0 (.slice none 0 0)).one
            have hbf := hUw5.setCell (p := ⟨w.heap.size + 1, 0, none⟩) (by simp) (.slice none 0 0)
            go_wp2
            generalize w5.setCell ⟨w.heap.size + 1, 0, none⟩ (.slice none 0 0) = Wf at hfin hbf ⊢
            refine bodyPost_ret (v := .tuple #[.agg #[.slice none 0 0], .bool false]) ?_ rfl ?_
            · simp [results, Try.results69, go_sem, hfin]
            exact ⟨none, 0, 0, by rw [HC.out, HR2.out], hbf⟩
          · have hz0 : z < 0 := by rw [decide_eq_false hmem] at hzd; exact of_decide_eq_true hzd
            have hz1 : decide (0 ≤ z) = false := decide_eq_false (by omega)
            have HR2 := Lib.hid (HYes.out hmem)
            clear hzd hmem HNo HYes
            have hm1 : 0 < m := by rw [← HM.out, HF.out]; exact (frcA_head Qh n a b).2
            obtain ⟨gA, _, _, rfl, _⟩ := hA3.arc HPs.out hm1
            have hlT : gT < wo.heap.size := by have := hM0.lt; omega
            have hlB : gB < wo.heap.size := (hO0.block gB rfl).2
            clear hM0 hO0
            have hBT' : gT ≠ gB := fun e => hBT e.symm
            go_wp2
            go_loopw [59] (fun i wr => ∃ (k : Nat) (zs : List Int), k ≤ m ∧ i = .int .i64 k ∧ zs.length = n ∧ Blk wr gT 3 (zs.map (Value.int .i64)).toArray ∧ OwnS wr wo.heap.size (some ⟨gA, 0, none⟩) m c3 ps ∧ OwnI wr W.heap.size (some ⟨gB, 0, none⟩) n d (ints Qh) ∧ Blk wr bH 27 #[.int .i64 n, .slice (some ⟨gB, 0, none⟩) n d] ∧ Blk wr bT 61 #[.slice (some ⟨gT, 0, none⟩) n n] ∧ Blk wr w.heap.size 27 #[.int .i64 n, .slice A n c] ∧ Blk wr (w.heap.size + 1) 61 #[.slice none 0 0] ∧ Below W.heap.size w2 wr) (fun i _ => m - (intOf i).toNat)
            case atStart => exact ⟨0, zs, Nat.zero_le _, rfl, hzl, hM, hA3, hO, hH, hT, hbk, hbr, hb25⟩
            case round =>
              clear hM hA3 hO hH hT hbk hbr hb25 hUw5
              obtain ⟨k, zk, hk, rfl, hzk, hM, hA, hO, hH, hT, hbk, hbr, hb⟩ := hrel
              obtain ⟨wi, rfl⟩ : ∃ wi : World, wi = wr := ⟨_, rfl⟩
              by_cases hlt : k < m
              · obtain ⟨gA', r, dr, eA, hkl, hcA, h0, h1, hlA, hlr, hrow, _⟩ := hA.arc HPs.out hlt
                obtain rfl : gA = gA' := by simpa using eA
                have hlts := HFg.out.lt F[k] (List.getElem_mem hkl)
                obtain ⟨q, hq⟩ : ∃ q, q = F[k] := ⟨_, rfl⟩
                rw [← hq] at h0 h1 hlts
                clear hq hrow eA
                obtain ⟨x, y⟩ := q
                simp only at h0 h1 hlts
                have hyT := hT.one
                have hcz := hM.intAt (j := x) (by omega)
                have hfz := hM.frozen x
                obtain ⟨z0, hz0⟩ : ∃ z0, z0 = zk.getD x 0 := ⟨_, rfl⟩
                rw [← hz0] at hcz
                clear hz0
                have hs := shl_p2 (k := y) (by omega)
                have hsI : IntKind.i64.wrap ((2 : Int) ^ y) = ((p2 y : Nat) : Int) := by rw [IntWalk.i64_left]; exact hs
                obtain ⟨u, hu⟩ : ∃ u, bits .or .i64 z0 ((p2 y : Nat) : Int) = u := ⟨_, rfl⟩
                go_wp2_with fail
                go_still_tail 13, (by kernel_rfl)
                change wpList _ _ _ _ _ wi.drew
                have hcz' : wi.drew.cell? ⟨gT, x, none⟩ = some (.int .i64 z0) := hcz
                have hfz' : wi.drew.frozen? ⟨gT, x, none⟩ = false := hfz
                have hg2 : wi.grownBy (wi.setCell ⟨gT, x, none⟩ (.int .i64 u)).drew (some gT) := grown_drew (grown_setCell wi ⟨gT, x, none⟩ (.int .i64 u))
                have hM2 := (hM.intSet x u).drew
                have hA2 := hA.kept_lt hg2 hlT
                have hO2 : OwnI (wi.setCell ⟨gT, x, none⟩ (.int .i64 u)).drew W.heap.size (some ⟨gB, 0, none⟩) n d (ints Qh) := hO.kept hg2 (.inr (by simp [Value.ownBlock]; exact hBT))
                have hH2 := hH.grown hg2 (by simp; exact hH.ne_ hM (by decide))
                have hT2 := hT.grown hg2 (by simp; exact hT.ne_ hM (by decide))
                have hbk2 := hbk.grown hg2 (by simp; exact hbk.ne_ hM (by decide))
                have hbr2 := hbr.grown hg2 (by simp; exact hbr.ne_ hM (by decide))
                have hb2 := (hb.setCell (p := ⟨gT, x, none⟩) hzM (.int .i64 u)).drew
                go_wp2_with fail
                generalize (wi.setCell ⟨gT, x, none⟩ (.int .i64 u)).drew = Wg at hM2 hA2 hO2 hH2 hT2 hbk2 hbr2 hb2 ⊢
                clear hM hA hO hH hT hbk hbr hcA h0 h1 hyT hcz hfz hcz' hfz' hg2 hlA hlr
                go_wp2
                go_roundw
                case rel => exact ⟨k + 1, zk.set x u, by omega, by go_num, by rw [List.length_set]; exact hzk, hM2, hA2, hO2, hH2, hT2, hbk2, hbr2, hb2⟩
                case measure => simp [intOf]; omega
              · obtain rfl : k = m := by omega
                go_wp2
                go_loopw [79] (fun i wr => ∃ (j : Nat) (zs : List Int) (Qk : List Nat), j ≤ k ∧ i = .int .i64 j ∧ zs.length = n ∧ Hid (Qk = delL Qh F j) ∧ Blk wr gT 3 (zs.map (Value.int .i64)).toArray ∧ OwnS wr wo.heap.size (some ⟨gA, 0, none⟩) k c3 ps ∧ OwnI wr W.heap.size (some ⟨gB, 0, none⟩) n d (ints Qk) ∧ Blk wr bH 27 #[.int .i64 n, .slice (some ⟨gB, 0, none⟩) n d] ∧ Blk wr bT 61 #[.slice (some ⟨gT, 0, none⟩) n n] ∧ Blk wr w.heap.size 27 #[.int .i64 n, .slice A n c] ∧ Blk wr (w.heap.size + 1) 61 #[.slice none 0 0] ∧ Below W.heap.size w2 wr) (fun i _ => k - (intOf i).toNat)
                case atStart => exact ⟨0, zk, Qh, Nat.zero_le _, rfl, hzk, rfl, hM, hA, hO, hH, hT, hbk, hbr, hb⟩
                case round =>
                  clear hM hA hO hH hT hbk hbr hb
                  obtain ⟨j, zs, Qk, hj, rfl, hzk, hQk, hM, hA, hO, hH, hT, hbk, hbr, hb⟩ := hrel
                  obtain ⟨wi, rfl⟩ : ∃ wi : World, wi = wr := ⟨_, rfl⟩
                  have HGk := Lib.hid (show GOk n Qk by rw [hQk.out]; exact HG.out.delL HFg.out.lt j (by rw [HM.out]; exact hj))
                  have hyH := hH.two
                  by_cases hlt : j < k
                  · obtain ⟨gA', r, dr, eA, hkl, hcA, h0, h1, hlA, hlr, hrow, _⟩ := hA.arc HPs.out hlt
                    obtain rfl : gA = gA' := by simpa using eA
                    have hlts := HFg.out.lt F[j] (List.getElem_mem hkl)
                    have HSt := Lib.hid (show delL Qh F (j + 1) = remE Qk F[j] by rw [delL, ← hQk.out, prAt_eq hkl])
                    obtain ⟨q, hq⟩ : ∃ q, q = F[j] := ⟨_, rfl⟩
                    rw [← hq] at h0 h1 hlts HSt
                    clear hq hrow eA
                    obtain ⟨x, y⟩ := q
                    simp only at h0 h1 hlts
                    have hcx := hO.nat hlts.1
                    have HNb := Lib.hid (HGk.out.nb7 x)
                    obtain ⟨f, hf⟩ : ∃ f, (nb Qk x).testBit y = f := ⟨_, rfl⟩
                    have HF1 := Lib.hid hf
                    obtain ⟨rx, hrx⟩ : ∃ rx, rx = nb Qk x := ⟨_, rfl⟩
                    rw [← hrx] at hcx HNb hf
                    have HF2 := Lib.hid hf
                    clear hrx hf
                    cases f
                    · go_wp2_with fail
                      go_quiet ((go_at_call 77; exact Calls.quiet_of_same (has_is (by have := HNb.out; omega) (by omega) HF2.out)))
                      go_wp2
                      go_roundw
                      case rel => exact ⟨j + 1, zs, Qk, by omega, by go_num, hzk, (show Qk = _ by rw [HSt.out, remE_no HF1.out]), hM.drewN _, hA.drewN _, hO.drewN _, hH.drewN _, hT.drewN _, hbk.drewN _, hbr.drewN _, below_drewN hb _⟩
                      case measure => simp [intOf]; omega
                    · go_wp2_with fail
                      go_quiet ((go_at_call 77; exact Calls.quiet_of_same (has_is (by have := HNb.out; omega) (by omega) HF2.out)))
                      go_wp2_with fail
                      have HEd := Lib.hid (show edge Qk x y = true from HF1.out)
                      replace hM := hM.drewN nq
                      replace hA := hA.drewN nq
                      replace hO := hO.drewN nq
                      replace hH := hH.drewN nq
                      replace hT := hT.drewN nq
                      replace hbk := hbk.drewN nq
                      replace hbr := hbr.drewN nq
                      replace hb := below_drewN hb nq
                      replace h0 : (wi.drewN nq).cell? ⟨r, 0, none⟩ = some (.int .i64 (x : Nat)) := h0
                      replace h1 : (wi.drewN nq).cell? ⟨r, 1, none⟩ = some (.int .i64 (y : Nat)) := h1
                      obtain ⟨wj, hwj⟩ : ∃ wj, wj = wi.drewN nq := ⟨_, rfl⟩
                      rw [← hwj] at hM hA hO hH hT hbk hbr hb h0 h1
                      rw [← hwj]
                      clear hwj hcA hlA hlr hyH
                      have hyH := hH.two
                      go_still_tail 7, (by kernel_rfl)
                      change wpList _ _ _ _ _ wj.drew
                      go_wp2_with fail
                      refine (flip_any n (base := W.heap.size) (Q := Qk) (v := x) (x := y) (hO.drew) HGk.out hlts.1 hlts.2 HEd.out).mono ?_
                      rintro e w6 ⟨rfl, hO6, hg6⟩
                      replace hg6 : wj.grownBy w6 (some gB) := ⟨hg6.os, hg6.tape, hg6.output, hg6.size, hg6.block⟩
                      have hM6 := hM.grown hg6 (by simp; exact hBT')
                      have hA6 := hA.kept_lt hg6 hlB
                      have hH6 := hH.grown hg6 fun e => own_blk_ne hO hH (by decide) e.symm
                      have hT6 := hT.grown hg6 fun e => own_blk_ne hO hT (by decide) e.symm
                      have hbk6 := hbk.grown hg6 fun e => own_blk_ne hO hbk (by decide) e.symm
                      have hbr6 := hbr.grown hg6 fun e => own_blk_ne hO hbr (by decide) e.symm
                      have hb6 := hb.grown hg6 (by have := hb.size; omega) (fun k hk => by cases hk; exact hzB)
                      go_wp2
                      go_roundw
                      case rel => exact ⟨j + 1, zs, delE Qk x y, by omega, by go_num, hzk, (show delE Qk x y = _ by rw [HSt.out, remE_yes HEd.out]), hM6, hA6, hO6, hH6, hT6, hbk6, hbr6, hb6⟩
                      case measure => simp [intOf]; omega
                  · obtain rfl : j = k := by omega
                    have HQe := Lib.hid (show phi Qk n ≤ g' ∧ orB n g' Qk = R by
                      rw [hQk.out]
                      have h1 := HP.out
                      have h2 := HR2.out
                      rw [HF.out] at HM
                      have hM' : F.length = j := by rw [HF.out]; exact HM.out
                      rw [← hM']
                      exact ⟨h1, h2⟩)
                    go_wp2_with fail
                    refine (implEdgesOf_is hO.ri HGk.out).mono ?_
                    rintro e w8 ⟨Ae8, ce8, pe8, hpe8, rfl, hoe8, hb8⟩
                    have HPe8 := Lib.hid hpe8
                    clear hpe8 hyH
                    go_wp2_with fail
                    go_roundg g'
                    case measure => omega
                    case rel => exact ⟨Qk, Ae8, ce8, _, pe8, zs, rfl, hoe8, HPe8.out, hO.up hb8, HGk.out, HQe.out, hzk, hM.up hb8, hH.up hb8, hT.up hb8, hbk.up hb8, hbr.up hb8, hb.trans (hb8.mono (by have := hb.size; omega))⟩
        · have HR2 := Lib.hid (show R = true by rw [← hR2.out.2, orB_end he])
          have hyT := hT.one
          have f1 := hbr.frozen 0
          have hfin := (hbr.set_ 0 (.slice (some ⟨gT, 0, none⟩) n n)).one
          have hbf := hUo.setCell (p := ⟨w.heap.size + 1, 0, none⟩) (by simp) (.slice (some ⟨gT, 0, none⟩) n n)
          have e1 := hbr.one
          have hme : ¬ 0 < (edges Qh n).length := he
          obtain ⟨me, hmee⟩ : ∃ me, me = (edges Qh n).length := ⟨_, rfl⟩
          rw [← hmee] at he ⊢
          clear hmee hoe hpe hR2 hme
          obtain rfl : me = 0 := by omega
          go_wp2
          generalize wo.setCell ⟨w.heap.size + 1, 0, none⟩ (.slice (some ⟨gT, 0, none⟩) n n) = Wf at hfin hbf ⊢
          refine bodyPost_ret (v := .tuple #[.agg #[.slice (some ⟨gT, 0, none⟩) n n], .bool true]) ?_ rfl ?_
          · simp [results, Try.results69, go_sem, hfin]
          exact ⟨some ⟨gT, 0, none⟩, n, n, by rw [HC.out, HR2.out], hbf⟩
end Go.Proofs.Ytlcmfangecbdgaa
