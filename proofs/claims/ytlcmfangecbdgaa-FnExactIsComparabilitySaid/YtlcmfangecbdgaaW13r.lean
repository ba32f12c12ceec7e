/- Walks of chapter 13: the reference's OrientationOf. -/
import Derived.Test.YtlcmfangecbdgaaW13q
import Derived.Test.YtlcmfangecbdgaaW2f
import Derived.Test.YtlcmfangecbdgaaAny
import Derived.Test.YtlcmfangecbdgaaW13k
import Derived.Deep.LoopGhost
namespace Go.Proofs.Ytlcmfangecbdgaa
open Go.RowKit
theorem addK_all {P : Nat × Nat → Prop} {out l : List (Nat × Nat)} (h : ∀ p ∈ out, P p) (hl : ∀ p ∈ l, P p) : ∀ k, k ≤ l.length → ∀ p ∈ addK out l k, P p
  | 0, _ => h
  | k + 1, hk => by
    have ih := addK_all h hl k (by omega)
    by_cases hm : prAt l k ∈ addK out l k
    · rw [addK_in hm]; exact ih
    · rw [addK_new hm]
      intro p hp
      rcases List.mem_append.1 hp with hp | hp
      · exact ih p hp
      · obtain rfl := List.mem_singleton.1 hp
        rw [prAt_eq (by omega)]
        exact hl _ (List.getElem_mem _)
theorem frcR_all {P : Nat × Nat → Prop} {Q : List Nat} {n : Nat} (hn : ∀ a b, ∀ p ∈ nxt Q n a b, P p) : ∀ (f : Nat) (out : List (Nat × Nat)) (i : Nat), (∀ p ∈ out, P p) → ∀ p ∈ frcR Q n f out i, P p
  | 0, _, _, h => h
  | f + 1, out, i, h => by
    rw [frcR]
    split
    · exact frcR_all hn f _ _ (addK_all h (hn _ _) _ (Nat.le_refl _))
    · exact h
theorem frcA_edge {Q : List Nat} {n a b : Nat} (h : edge Q a b = true) : ∀ p ∈ frcA Q n a b, edge Q p.1 p.2 = true :=
  frcR_all (P := fun p => edge Q p.1 p.2 = true) (fun _ _ p hp => (nxt_mem hp).2.2) 50 [(a, b)] 0 fun p hp => by
    obtain rfl := List.mem_singleton.1 hp
    exact h
theorem Blk.intAt' {w : World} {g : Nat} {t : TypeId} {zs : List Int} {j : Nat} (h : Blk w g t (zs.map (Value.int .i64)).toArray) (hj : j < zs.length) : w.cell? ⟨g, j, none⟩ = some (.int .i64 (zs.getD j 0)) := by
  rw [h.cell]; simp [List.getElem?_eq_getElem hj]
theorem Blk.intSet' {w : World} {g : Nat} {t : TypeId} {zs : List Int} (h : Blk w g t (zs.map (Value.int .i64)).toArray) (x : Nat) (u : Int) : Blk (w.setCell ⟨g, x, none⟩ (.int .i64 u)) g t ((zs.set x u).map (Value.int .i64)).toArray := by
  have := h.set_ x (.int .i64 u)
  rw [List.map_set]
  simpa using this
theorem specEdgesOf_is {A : Option Addr} {n c : Nat} {Q : List Nat} {w : World} (hX : RI w A n (ints Q)) (h : GOk n Q) :
    Calls Try.prog 87 #[.agg #[.int .i64 n, .slice A n c]] w fun e w' => ∃ Ae ce pe, pe.map Prod.snd = (edges Q n).map row2 ∧ e = .returned (.slice Ae (edges Q n).length ce) ∧ OwnS w' w.heap.size Ae (edges Q n).length ce pe ∧ Below w.heap.size w w' := by
  have h7 := h.le
  refine (specEdgesOf_any n A n c (ints Q) w hX (by omega)).mono ?_
  rintro e w' ⟨Ae, ce, pe, hpe, rfl, ho, hb⟩
  rw [edgesOf_ok h] at hpe
  have hl : pe.length = (edges Q n).length := by have := congrArg List.length hpe; simpa using this
  rw [hl] at ho ⊢
  exact ⟨Ae, ce, pe, hpe, rfl, ho, hb⟩
theorem specForced_is {A : Option Addr} {n c a b : Nat} {Q : List Nat} {w : World} (hX : RI w A n (ints Q)) (h : GOk n Q) (ha : a < n) (hb : b < n) (he : edge Q a b = true) :
    Calls Try.prog 30 #[.agg #[.int .i64 n, .slice A n c], .int .i64 a, .int .i64 b] w fun e w' => ∃ Ae ce pe, pe.map Prod.snd = (frcA Q n a b).map row2 ∧ e = .returned (.slice Ae (frcA Q n a b).length ce) ∧ OwnS w' w.heap.size Ae (frcA Q n a b).length ce pe ∧ Below w.heap.size w w' := by
  have h7 := h.le
  refine (specForcedArcs_any n A n c (ints Q) a b w hX (by omega)).mono ?_
  rintro e w' ⟨Ae, ce, pe, hpe, rfl, ho, hb'⟩
  rw [frcOf_ok (by rw [hasEdge_ok h ha hb]; exact he)] at hpe
  replace hpe : pe.map Prod.snd = (frcA Q n a b).map row2 := hpe
  have hl : pe.length = (frcA Q n a b).length := by have := congrArg List.length hpe; simpa using this
  rw [hl] at ho ⊢
  exact ⟨Ae, ce, pe, hpe, rfl, ho, hb'⟩
theorem removeEdge_is {ad : Addr} {n c v x : Nat} {Q : List Nat} {w : World} (hX : RI w (some ad) n (ints Q)) (h : GOk n Q) (hv : v < n) (hx : x < n) (hne : v ≠ x) :
    Calls Try.prog 88 #[.agg #[.int .i64 n, .slice (some ad) n c], .int .i64 v, .int .i64 x] w fun e w' => ∃ g' d' f, e = .returned (.tuple #[.agg #[.int .i64 n, .slice (some ⟨g', 0, none⟩) n d'], .bool f]) ∧ OwnI w' w.heap.size (some ⟨g', 0, none⟩) n d' (ints (remE Q (v, x))) ∧ Below w.heap.size w w' := by
  refine (removeEdge_ok ad n c v x Q w hX h hv hx hne).mono ?_
  rintro e w' ⟨B, d, rfl, hown, hb⟩
  have e : (ints (remE Q (v, x))).length = n := by rw [ints_len, (GOk.remE (p := (v, x)) h hv hx).len]
  rw [e] at hown ⊢
  obtain ⟨g, rfl⟩ := hown.form (by omega)
  exact ⟨g, d, _, rfl, hown, hb⟩
theorem OwnS.drewN_ {w : World} {base n c : Nat} {A : Option Addr} {ps : List RowP} (h : OwnS w base A n c ps) (k : Nat) : OwnS (w.drewN k) base A n c ps := ⟨h.top, h.rows, h.apart⟩
theorem l13Find_same {A : Option Addr} {n c base x y : Nat} {ps : List RowP} {l : List (Nat × Nat)} {z : Int} {w : World} (h : OwnS w base A n c ps) (hl : ps.map Prod.snd = l.map row2) (hn : n ≤ 1048576) (hz : fndZ l (x, y) = z) :
    Calls Try.prog 58 #[.slice A n c, .int .i64 x, .int .i64 y] w fun e w' => e = .returned (.int .i64 z) ∧ w' = w := by
  subst hz; exact (l13Find_any x y h hl hn).mono fun _ _ k => ⟨k.1, k.2.symm⟩
set_option maxRecDepth 100000 in
set_option maxHeartbeats 4000000 in
theorem specOrientationOf_flag (N : Int) (A : Option Addr) (n c : Nat) (X : List Int) (w : World) (hX : RI w A n X) (hn : n ≤ 1048576) :
    Calls Try.prog 68 #[.agg #[.int .i64 N, .slice A n c]] w fun e w' => ∃ A' k c', e = .returned (.tuple #[.agg #[.slice A' k c'], .bool (isComp N X)]) ∧ Below w.heap.size w w' := by
  have hbk := (Blk.new w 27 #[.int .i64 N, .slice A n c]).alloc (.cells #[.slice none 0 0] 61)
  have hbr := Blk.new_at (w := w.alloc (.cells #[.int .i64 N, .slice A n c] 27)) (t := 61) (cs := #[.slice none 0 0]) (g := w.heap.size + 1) (by simp)
  have hU0 : Up w ((w.alloc (.cells #[.int .i64 N, .slice A n c] 27)).alloc (.cells #[.slice none 0 0] 61)) := by go_grown
  have hl0 : w.heap.size + 2 = ((w.alloc (.cells #[.int .i64 N, .slice A n c] 27)).alloc (.cells #[.slice none 0 0] 61)).heap.size := by simp
  obtain ⟨W, hW⟩ : ∃ W, W = (w.alloc (.cells #[.int .i64 N, .slice A n c] 27)).alloc (.cells #[.slice none 0 0] 61) := ⟨_, rfl⟩
  rw [← hW] at hbk hbr hU0 hl0
  have hX0 := hX.up hU0
  have hy0 := hbk.two
  rcases isGraph_cases N X with hg | ⟨k, Q, rfl, rfl, h⟩
  · have HG := Lib.hid hg
    have HC := Lib.hid (isComp_no hg)
    clear hg
    go_enter Try.func68, Try.ntmps68
    go_wp2_with fail
    rw [← hW]
    clear hW
    refine (specIsGraph_is hX0 (by omega) HG.out).mono ?_
    rintro e w1 ⟨rfl, hb1⟩
    have hbr1 := hbr.up hb1
    have e1 := hbr1.one
    have f1 := hbr1.frozen 0
    have hfin := (hbr1.set_ 0 (.slice none 0 0)).one
    have hbf := (Up.then_ hU0 hb1).setCell (p := ⟨w.heap.size + 1, 0, none⟩) (by simp) (.slice none 0 0)
    go_wp2
    generalize w1.setCell ⟨w.heap.size + 1, 0, none⟩ (.slice none 0 0) = Wf at hfin hbf ⊢
    refine bodyPost_ret (v := .tuple #[.agg #[.slice none 0 0], .bool false]) ?_ rfl ?_
    · simp [results, Try.results68, go_sem, hfin]
    exact ⟨none, 0, 0, by rw [HC.out], hbf⟩
  · obtain rfl : n = k := by rw [← hX.1, ints_len, h.len]
    have h7 := h.le
    have hpos := h.pos
    have HGQ := Lib.hid h
    obtain ⟨ad, rfl, _, _⟩ := hX.addr hpos
    obtain ⟨R, hR⟩ : ∃ R, R = orB n (phi Q n) Q := ⟨_, rfl⟩
    have HR := Lib.hid hR.symm
    have HC := Lib.hid (show isComp n (ints Q) = R by rw [isComp_ok h, hR])
    clear hR
    have hmk := make_ints n hn
    go_enter Try.func68, Try.ntmps68
    go_wp2_with fail
    rw [← hW]
    clear hW
    refine (specIsGraph_is hX0 (by omega) HGQ.out.is).mono ?_
    rintro e w1 ⟨rfl, hb1⟩
    replace hbk := hbk.up hb1
    replace hbr := hbr.up hb1
    replace hU0 := Up.then_ hU0 hb1
    have hX1 := hX0.up hb1
    have hl1 := hb1.size
    replace hy0 := hbk.two
    clear hX0 hb1
    have hyA := fun o o' => ((hbk.alloc o).alloc o').two
    go_wp2_with fail
    clear hyA hmk
    have hU2 : Up w1 ((w1.alloc (.cells (zeros n) 3)).alloc (.cells #[.slice (some ⟨w1.heap.size, 0, none⟩) n n] 61)) := by go_grown
    have HzT := Lib.hid (show zeros n = ((List.replicate n (0 : Int)).map (Value.int .i64)).toArray by simp [zeros])
    have hM := (Blk.new w1 3 (zeros n)).alloc (.cells #[.slice (some ⟨w1.heap.size, 0, none⟩) n n] 61)
    have hT := Blk.new_at (w := w1.alloc (.cells (zeros n) 3)) (t := 61) (cs := #[.slice (some ⟨w1.heap.size, 0, none⟩) n n]) (g := w1.heap.size + 1) (by simp)
    refine (l2Copy_nat ad n c Q _ (hX1.up hU2) HGQ.out.len (by omega) (by omega)).mono ?_
    rintro e w2 ⟨gB, d, rfl, hO, hb2, hgB⟩
    replace hM := hM.up hb2
    rw [HzT.out] at hM
    replace hT := hT.up hb2
    replace hb2 := Up.then_ hU2 hb2
    replace hbk := hbk.up hb2
    replace hbr := hbr.up hb2
    replace hU0 := Up.then_ hU0 hb2
    replace hO := hO.more (base' := W.heap.size) (by simp; omega)
    have hzB : W.heap.size ≤ gB := (hO.block gB rfl).1
    have hBT : gB ≠ w1.heap.size := by simp at hgB; omega
    obtain ⟨gT, hgT⟩ : ∃ gT, gT = w1.heap.size := ⟨_, rfl⟩
    obtain ⟨bT, hbT⟩ : ∃ bT, bT = w1.heap.size + 1 := ⟨_, rfl⟩
    rw [← hbT] at hT
    rw [← hgT] at hM hT hBT
    have hzM : W.heap.size ≤ gT := by omega
    have hzT : W.heap.size ≤ bT := by omega
    have hl2 := hb2.size
    clear hX1 hU2 hy0 hgB
    go_wp2_with fail
    rw [← hbT, ← hgT]
    clear hgT hbT
    have hU3 : Up w2 (w2.alloc (.cells #[.int .i64 n, .slice (some ⟨gB, 0, none⟩) n d] 27)) := by go_grown
    have hH := Blk.new w2 27 #[.int .i64 n, .slice (some ⟨gB, 0, none⟩) n d]
    obtain ⟨w3, hw3⟩ : ∃ w3, w3 = w2.alloc (.cells #[.int .i64 n, .slice (some ⟨gB, 0, none⟩) n d] 27) := ⟨_, rfl⟩
    rw [← hw3] at hU3 hH
    rw [← hw3]
    clear hw3
    replace hM := hM.up hU3
    replace hO := hO.up hU3
    replace hT := hT.up hU3
    replace hbk := hbk.up hU3
    replace hbr := hbr.up hU3
    replace hU0 := Up.then_ hU0 hU3
    obtain ⟨bH, hbH⟩ : ∃ bH, bH = w2.heap.size := ⟨_, rfl⟩
    rw [← hbH] at hH
    rw [← hbH]
    have hzH : W.heap.size ≤ bH := by omega
    have hl3 := hU3.size
    clear hbH hb2 hU3
    go_loopg [] (phi Q n) (fun g wr => ∃ (Qk : List Nat) (zs : List Int) (gB d : Nat), gB ≠ gT ∧ GOk n Qk ∧ Hid (phi Qk n ≤ g ∧ orB n g Qk = R) ∧ zs.length = n ∧ Blk wr gT 3 (zs.map (Value.int .i64)).toArray ∧ OwnI wr W.heap.size (some ⟨gB, 0, none⟩) n d (ints Qk) ∧ Blk wr bH 27 #[.int .i64 n, .slice (some ⟨gB, 0, none⟩) n d] ∧ Blk wr bT 61 #[.slice (some ⟨gT, 0, none⟩) n n] ∧ Blk wr w.heap.size 27 #[.int .i64 n, .slice (some ad) n c] ∧ Blk wr (w.heap.size + 1) 61 #[.slice none 0 0] ∧ Below W.heap.size w3 wr)
    case atStart => exact ⟨Q, List.replicate n 0, gB, d, hBT, h, ⟨Nat.le_refl _, HR.out⟩, by simp, hM, hO, hH, hT, hbk, hbr, Below.refl _ _⟩
    case round =>
      clear hH hO hT hM hbk hbr hBT hzB
      obtain ⟨Qh, zs, gB, d, hBT, hG, hR2, hzl, hM, hO, hH, hT, hbk, hbr, hb⟩ := hrel
      obtain ⟨wo, rfl⟩ : ∃ wo : World, wo = wr := ⟨_, rfl⟩
      have hyH := hH.two
      have hUo : Up w wo := hU0.trans (hb.mono (by omega))
      have hb0 := hb.size
      have HGh := Lib.hid hG
      go_wp2_with fail
      refine (specEdgesOf_is hO.ri HGh.out).mono ?_
      rintro e w5 ⟨Ae, ce, pe, hpe, rfl, hoe, hb5⟩
      have HPe := Lib.hid hpe
      clear hpe
      replace hM := hM.up hb5
      replace hO := hO.up hb5
      replace hT := hT.up hb5
      replace hH := hH.up hb5
      replace hbk := hbk.up hb5
      replace hbr := hbr.up hb5
      have hU5 := Up.then_ hUo hb5
      have hb5' : Below W.heap.size w3 w5 := hb.trans (hb5.mono (by omega))
      replace hyH := hH.two
      clear hb hUo
      by_cases he : 0 < (edges Qh n).length
      · obtain ⟨a, b, h0, ha, hbn, hab⟩ := edges_first he
        have hps := phi_step hG ha hbn hab
        obtain ⟨g', rfl⟩ : ∃ g', gk = g' + 1 := ⟨gk - 1, by have := hR2.out.1; omega⟩
        have HP := Lib.hid (show phi (delL Qh (frcA Qh n a b) (frcA Qh n a b).length) n ≤ g' by have := hR2.out.1; omega)
        have HNo := Lib.hid (fun hm => (hR2.out.2 ▸ orB_no (f := g') he h0 hm : R = false))
        have HYes := Lib.hid (fun hm => (hR2.out.2 ▸ (orB_step (f := g') he h0 hm).symm : orB n g' (delL Qh (frcA Qh n a b) (frcA Qh n a b).length) = R))
        have HFg := Lib.hid (frcA_good (Q := Qh) ha hbn)
        have HHd := Lib.hid (frcA_head Qh n a b).2
        have HNe := Lib.hid (fun (p : Nat × Nat) (hp : p ∈ frcA Qh n a b) => hG.ne_of (frcA_edge hab p hp))
        have HE0 := Lib.hid h0
        have HFA := Lib.hid fun (A' : Option Addr) (c' : Nat) (w' : World) (hX' : RI w' A' n (ints Qh)) => specForced_is (c := c') hX' hG ha hbn hab
        have Hel := Lib.hid he
        obtain ⟨me, hme⟩ : ∃ me, me = (edges Qh n).length := ⟨_, rfl⟩
        have HMe := Lib.hid hme
        rw [← hme] at he ⊢
        clear hme hps h0 hR2 hoe hG hab
        go_wp2_with fail
        refine (specEdgesOf_is hO.ri HGh.out).mono ?_
        rw [← HMe.out]
        rintro e w6 ⟨Ae6, ce6, pe6, hpe6, rfl, hoe6, hb6⟩
        replace hM := hM.up hb6
        replace hO := hO.up hb6
        replace hT := hT.up hb6
        replace hH := hH.up hb6
        replace hbk := hbk.up hb6
        replace hbr := hbr.up hb6
        have hU6 := Up.then_ hU5 hb6
        have hl5 := hb5.size
        have hb6' : Below W.heap.size w3 w6 := hb5'.trans (hb6.mono (by omega))
        replace hyH := hH.two
        obtain ⟨gE, r, dr, rfl, hkl, hcE, hr0, hr1, hlE, hlr, hrE, hpkE⟩ := hoe6.arc hpe6 (by rw [HMe.out]; exact Hel.out)
        have e0 : (edges Qh n)[0] = (a, b) := by rw [← prAt_eq hkl]; exact HE0.out
        rw [e0] at hr0 hr1
        simp only at hr0 hr1
        clear hrE hpkE hpe6 hoe6 e0 hkl hb5' hU5
        obtain ⟨F, hF⟩ : ∃ F, F = frcA Qh n a b := ⟨_, rfl⟩
        have HF := Lib.hid hF
        rw [← hF] at HP HNo HYes HFg HHd HFA HNe
        clear hF
        go_wp2_with fail
        go_still_tail 7, (by kernel_rfl)
        change wpList _ _ _ _ _ w6.drew
        go_wp2_with fail
        refine (HFA.out _ _ _ hO.drew.ri).mono ?_
        rintro e w7 ⟨A3, c3, ps, hps, rfl, hA3, hb7⟩
        have HPs := Lib.hid hps
        replace hb7 : Up w6 w7 := Up.then_ (by go_grown) hb7
        replace hA3 : OwnS w7 w6.heap.size A3 F.length c3 ps := hA3
        clear hps
        have hlT : gT < w6.heap.size := hM.lt
        have hlH : bH < w6.heap.size := hH.lt
        replace hM := hM.up hb7
        replace hO := hO.up hb7
        replace hT := hT.up hb7
        replace hH := hH.up hb7
        replace hbk := hbk.up hb7
        replace hbr := hbr.up hb7
        have hU7 := Up.then_ hU6 hb7
        have hl6 := hb6.size
        have hl7 := hb7.size
        have hb7' : Below W.heap.size w3 w7 := hb6'.trans (hb7.mono (by omega))
        replace hr0 : w7.cell? ⟨r, 0, none⟩ = some (.int .i64 (a : Nat)) := (hb7.cell (p := ⟨r, 0, none⟩) hlr).trans hr0
        replace hr1 : w7.cell? ⟨r, 1, none⟩ = some (.int .i64 (b : Nat)) := (hb7.cell (p := ⟨r, 1, none⟩) hlr).trans hr1
        clear hb6' hU6 hyH hcE hlE
        obtain ⟨m, hm⟩ : ∃ m, m = F.length := ⟨_, rfl⟩
        have HM := Lib.hid hm.symm
        have hm49 : m ≤ 49 := by rw [hm]; exact HFg.out.len h7
        have hm1 : 0 < m := by rw [hm]; exact HHd.out
        rw [← hm] at hA3 ⊢
        clear hm
        obtain ⟨gA, _, _, rfl, _⟩ := hA3.arc HPs.out hm1
        obtain ⟨z, hz⟩ : ∃ z, fndZ F (b, a) = z := ⟨_, rfl⟩
        have HZ := Lib.hid hz
        have hzd := fndZ_neg F (b, a)
        rw [hz] at hzd
        clear hz
        have HL := Lib.hid hA3
        by_cases hmem : (b, a) ∈ F
        · have hz0 : ¬ z < 0 := by rw [decide_eq_true hmem] at hzd; exact of_decide_eq_false hzd
          have hz1 : decide (0 ≤ z) = true := decide_eq_true (by omega)
          have HR2 := Lib.hid (HNo.out hmem)
          clear hzd hmem HNo HYes
          have e1 := fun k => (hbr.drewN k).one
          have f1 := fun k => (hbr.drewN k).frozen 0
          go_wp2_with fail
          go_quiet ((go_at_call 58; exact Calls.quiet_of_same (l13Find_same (OwnS.drewN_ HL.out _) HPs.out (by omega) HZ.out)))
          have hfin := ((hbr.drewN nq).set_ 0 (.slice none 0 0)).one
          have hbf := (below_drewN hU7 nq).setCell (p := ⟨w.heap.size + 1, 0, none⟩) (by simp) (.slice none 0 0)
          go_wp2
          generalize (w7.drewN nq).setCell ⟨w.heap.size + 1, 0, none⟩ (.slice none 0 0) = Wf at hfin hbf ⊢
          refine bodyPost_ret (v := .tuple #[.agg #[.slice none 0 0], .bool false]) ?_ rfl ?_
          · simp [results, Try.results68, go_sem, hfin]
          exact ⟨none, 0, 0, by rw [HC.out, HR2.out], hbf⟩
        · have hz0 : z < 0 := by rw [decide_eq_false hmem] at hzd; exact of_decide_eq_true hzd
          have hz1 : decide (0 ≤ z) = false := decide_eq_false (by omega)
          have HR2 := Lib.hid (HYes.out hmem)
          clear hzd hmem HNo HYes
          go_wp2_with fail
          go_quiet ((go_at_call 58; exact Calls.quiet_of_same (l13Find_same (OwnS.drewN_ HL.out _) HPs.out (by omega) HZ.out)))
          replace hM := hM.drewN nq
          replace hA3 := hA3.drewN_ nq
          replace hO := hO.drewN nq
          replace hH := hH.drewN nq
          replace hT := hT.drewN nq
          replace hbk := hbk.drewN nq
          replace hbr := hbr.drewN nq
          replace hb7' := below_drewN hb7' nq
          go_wp2
          go_loopw [8] (fun i wr => ∃ (k : Nat) (zs : List Int) (Qk : List Nat) (gB d : Nat), k ≤ m ∧ i = .int .i64 k ∧ gB ≠ gT ∧ GOk n Qk ∧ Hid (Qk = delL Qh F k) ∧ OwnS wr w6.heap.size (some ⟨gA, 0, none⟩) m c3 ps ∧ zs.length = n ∧ Blk wr gT 3 (zs.map (Value.int .i64)).toArray ∧ OwnI wr W.heap.size (some ⟨gB, 0, none⟩) n d (ints Qk) ∧ Blk wr bH 27 #[.int .i64 n, .slice (some ⟨gB, 0, none⟩) n d] ∧ Blk wr bT 61 #[.slice (some ⟨gT, 0, none⟩) n n] ∧ Blk wr w.heap.size 27 #[.int .i64 n, .slice (some ad) n c] ∧ Blk wr (w.heap.size + 1) 61 #[.slice none 0 0] ∧ Below W.heap.size w3 wr) (fun i _ => m - (intOf i).toNat)
          case atStart => exact ⟨0, zs, Qh, gB, d, Nat.zero_le _, rfl, hBT, HGh.out, rfl, hA3, hzl, hM, hO, hH, hT, hbk, hbr, hb7'⟩
          case round =>
            clear hM hA3 hO hH hT hbk hbr hb7' hBT
            obtain ⟨k, zs, Qk, gB, d, hk, rfl, hBT, hGk, hQk, hA, hzk, hM, hO, hH, hT, hbk, hbr, hb⟩ := hrel
            obtain ⟨wi, rfl⟩ : ∃ wi : World, wi = wr := ⟨_, rfl⟩
            have HGk := Lib.hid hGk
            clear hGk
            by_cases hlt : k < m
            · obtain ⟨gA', r, dr, eA, hkl, hcA, h0, h1, hlA, hlr, hrow, _⟩ := hA.arc HPs.out hlt
              obtain rfl : gA = gA' := by simpa using eA
              have hlts := HFg.out.lt F[k] (List.getElem_mem hkl)
              have hne := HNe.out F[k] (List.getElem_mem hkl)
              have HSt := Lib.hid (show delL Qh F (k + 1) = remE Qk F[k] by rw [delL, ← hQk.out, prAt_eq hkl])
              obtain ⟨q, hq⟩ : ∃ q, q = F[k] := ⟨_, rfl⟩
              rw [← hq] at h0 h1 hlts hne HSt
              have HFk := Lib.hid (fun (_ : k < F.length) => hq)
              clear hq hrow eA
              obtain ⟨x, y⟩ := q
              simp only at h0 h1 hlts hne
              have HNe2 := Lib.hid hne
              clear hne
              have hyT := hT.one
              have hcz := hM.intAt' (j := x) (by omega)
              have hfz := hM.frozen x
              obtain ⟨z0, hz0⟩ : ∃ z0, z0 = zs.getD x 0 := ⟨_, rfl⟩
              rw [← hz0] at hcz
              clear hz0
              have hs := shl_p2 (k := y) (by omega)
              have hsI : IntKind.i64.wrap ((2 : Int) ^ y) = ((p2 y : Nat) : Int) := by rw [IntWalk.i64_left]; exact hs
              obtain ⟨u, hu⟩ : ∃ u, bits .or .i64 z0 ((p2 y : Nat) : Int) = u := ⟨_, rfl⟩
              go_wp2_with fail
              go_still_tail 27, (by kernel_rfl)
              change wpList _ _ _ _ _ wi.drew
              have hcz' : wi.drew.cell? ⟨gT, x, none⟩ = some (.int .i64 z0) := hcz
              have hfz' : wi.drew.frozen? ⟨gT, x, none⟩ = false := hfz
              have hg2 : wi.grownBy (wi.setCell ⟨gT, x, none⟩ (.int .i64 u)).drew (some gT) := grown_drew (grown_setCell wi ⟨gT, x, none⟩ (.int .i64 u))
              have hM2 := (hM.intSet' x u).drew
              have hA2 := hA.kept_lt hg2 hlT
              have hO2 : OwnI (wi.setCell ⟨gT, x, none⟩ (.int .i64 u)).drew W.heap.size (some ⟨gB, 0, none⟩) n d (ints Qk) := hO.kept hg2 (.inr (by simp [Value.ownBlock]; exact hBT))
              have hH2 := hH.grown hg2 (by simp; exact hH.ne_ hM (by decide))
              have hT2 := hT.grown hg2 (by simp; exact hT.ne_ hM (by decide))
              have hbk2 := hbk.grown hg2 (by simp; exact hbk.ne_ hM (by decide))
              have hbr2 := hbr.grown hg2 (by simp; exact hbr.ne_ hM (by decide))
              have hb2 := (hb.setCell (p := ⟨gT, x, none⟩) hzM (.int .i64 u)).drew
              go_wp2_with fail
              generalize (wi.setCell ⟨gT, x, none⟩ (.int .i64 u)).drew = Wg at hM2 hA2 hO2 hH2 hT2 hbk2 hbr2 hb2 ⊢
              clear hM hA hO hH hT hbk hbr hcA h0 h1 hyT hcz hfz hcz' hfz' hg2 hlA hlr hb
              obtain ⟨gA', r, dr, eA, hkl, hcA, h0, h1, hlA, hlr, hrow, _⟩ := hA2.arc HPs.out hlt
              obtain rfl : gA = gA' := by simpa using eA
              have hFk := HFk.out hkl
              rw [← hFk] at h0 h1
              clear hFk hrow eA
              simp only at h0 h1
              have hyH2 := hH2.two
              go_wp2_with fail
              refine wp_region_still_any 13 #[true, true, true, true, true, true, true, true, true, true, true, true, true, false, false, false, false, false] (by kernel_rfl) (by kernel_rfl) ?_
              simp only [List.take_succ_cons, List.take_zero]
              repeat still_step
              refine wpStill_nil ?_
              refine wpAny_ready (rs := [13]) (by kernel_rfl) (by simp) ?_
              refine AllReady.cons rfl (fun K hK => ?_) AllReady.nil
              go_simp
              go_at_call 88
              refine (removeEdge_is (hO2.drew.ri) HGk.out hlts.1 hlts.2 HNe2.out).mono ?_
              rintro e w9 ⟨g9, d9, f9, rfl, hO9, hb9⟩
              replace hb9 : Up Wg w9 := Up.then_ (by go_grown) hb9
              replace hO9 : OwnI w9 Wg.heap.size (some ⟨g9, 0, none⟩) n d9 (ints (remE Qk (x, y))) := hO9
              have hH9 := hH2.up hb9
              have hf9 := hH9.frozen 0
              have hf91 := hH9.frozen 1
              have hy9 := hH9.two
              go_wp2_with fail
              try refine hK _ _ ?_
              try clear hK K
              (try simp only [List.getElem_toArray]); (try simp only [List.getElem_cons_succ]); (try simp only [List.getElem_cons_zero]); (try simp only [Act.put]); (try simp only [List.setIfInBounds_toArray]); (try simp only [List.set_cons_succ]); (try simp only [List.set_cons_zero])
              refine wpAny_take (i := 14) (v := ?_) rfl (by kernel_rfl) (by kernel_rfl) (by kernel_rfl) (fun _ _ _ h => h) (Or.inl ⟨by rfl, ?_⟩) ?_
              rotate_left
              · (intro w'; go_simp; try with_reducible rfl)
              (try simp only [List.getElem_toArray]); (try simp only [List.getElem_cons_succ]); (try simp only [List.getElem_cons_zero]); (try simp only [Act.put]); (try simp only [List.setIfInBounds_toArray]); (try simp only [List.set_cons_succ]); (try simp only [List.set_cons_zero])
              refine wpAny_take (i := 15) (v := ?_) rfl (by kernel_rfl) (by kernel_rfl) (by kernel_rfl) (fun _ _ _ h => h) (Or.inl ⟨by rfl, ?_⟩) ?_
              rotate_left
              · (intro w'; go_simp; try with_reducible rfl)
              (try simp only [List.getElem_toArray]); (try simp only [List.getElem_cons_succ]); (try simp only [List.getElem_cons_zero]); (try simp only [Act.put]); (try simp only [List.setIfInBounds_toArray]); (try simp only [List.set_cons_succ]); (try simp only [List.set_cons_zero])
              refine wpAny_take (i := 16) (v := ?_) rfl (by kernel_rfl) (by kernel_rfl) (by kernel_rfl) (fun _ _ _ h => h) (Or.inl ⟨by rfl, ?_⟩) ?_
              rotate_left
              · (intro w'; go_simp; try with_reducible rfl)
              (try simp only [List.getElem_toArray]); (try simp only [List.getElem_cons_succ]); (try simp only [List.getElem_cons_zero]); (try simp only [Act.put]); (try simp only [List.setIfInBounds_toArray]); (try simp only [List.set_cons_succ]); (try simp only [List.set_cons_zero])
              refine wpAny_ready (rs := [17]) (by kernel_rfl) (by simp) ?_
              refine AllReady.cons rfl (fun K hK => ?_) AllReady.nil
              go_simp
              refine hK _ _ ?_
              try clear hK K
              refine wpAny_done (by kernel_rfl) ?_ _
              have hM9 := ((hM2.up hb9).far (p := ⟨bH, 0, none⟩) (by simp; exact ((hH9.ne_ (hM2.up hb9) (by decide)).symm)) (.int .i64 n))
              have hM10 := hM9.far (p := ⟨bH, 1, none⟩) (by simp; exact ((hH9.ne_ (hM2.up hb9) (by decide)).symm)) (.slice (some ⟨g9, 0, none⟩) n d9)
              have hT9 := ((hT2.up hb9).far (p := ⟨bH, 0, none⟩) (by simp; exact ((hH9.ne_ (hT2.up hb9) (by decide)).symm)) (.int .i64 n)).far (p := ⟨bH, 1, none⟩) (by simp; exact ((hH9.ne_ (hT2.up hb9) (by decide)).symm)) (.slice (some ⟨g9, 0, none⟩) n d9)
              have hbr9 := ((hbr2.up hb9).far (p := ⟨bH, 0, none⟩) (by simp; exact ((hH9.ne_ (hbr2.up hb9) (by decide)).symm)) (.int .i64 n)).far (p := ⟨bH, 1, none⟩) (by simp; exact ((hH9.ne_ (hbr2.up hb9) (by decide)).symm)) (.slice (some ⟨g9, 0, none⟩) n d9)
              have hbk9 := ((hbk2.up hb9).far (p := ⟨bH, 0, none⟩) (by simp; omega) (.int .i64 n)).far (p := ⟨bH, 1, none⟩) (by simp; omega) (.slice (some ⟨g9, 0, none⟩) n d9)
              have hO10 := (hO9.other_store (i := 0) hH9 (by decide) (.int .i64 n)).other_store (i := 1) (hH9.set_ 0 (.int .i64 n)) (by decide) (.slice (some ⟨g9, 0, none⟩) n d9)
              have hH10 := (hH9.set_ 0 (.int .i64 n)).set_ 1 (.slice (some ⟨g9, 0, none⟩) n d9)
              have hlT2 := hM2.lt
              have hg9 : Wg.heap.size ≤ g9 := (hO9.block g9 rfl).1
              have hsz2 := hb2.size
              have hb10 := ((hb2.trans (hb9.mono (by omega) : Below W.heap.size Wg w9)).setCell (p := ⟨bH, 0, none⟩) hzH (.int .i64 n)).setCell (p := ⟨bH, 1, none⟩) hzH (.slice (some ⟨g9, 0, none⟩) n d9)
              have hA9 := ((hA2.up hb9).kept_lt (grown_setCell w9 ⟨bH, 0, none⟩ (.int .i64 n)) hlH).kept_lt (grown_setCell _ ⟨bH, 1, none⟩ (.slice (some ⟨g9, 0, none⟩) n d9)) hlH
              clear hM9 hA2 hO2 hH2 hT2 hbk2 hbr2 hb2 hb9 hH9 hf9 hf91 hy9 hO9 hyH2
              go_wp2
              go_roundw
              case rel => exact ⟨k + 1, zs.set x u, remE Qk (x, y), g9, d9, by omega, by go_num, by omega, GOk.remE (p := (x, y)) HGk.out hlts.1 hlts.2, HSt.out.symm, hA9, by rw [List.length_set]; exact hzk, hM10, hO10.more (by omega), hH10, hT9, hbk9, hbr9, hb10⟩
              case measure => simp [intOf]; omega
            · obtain rfl : k = m := by omega
              have HQe := Lib.hid (show phi Qk n ≤ g' ∧ orB n g' Qk = R by
                rw [hQk.out]
                have h1 := HP.out
                have h2 := HR2.out
                rw [HM.out] at h1 h2
                exact ⟨h1, h2⟩)
              go_wp2
              go_roundg g'
              case measure => omega
              case rel => exact ⟨Qk, zs, gB, d, hBT, HGk.out, HQe.out, hzk, hM, hO, hH, hT, hbk, hbr, hb⟩
      · have HR2 := Lib.hid (show R = true by rw [← hR2.out.2, orB_end he])
        obtain ⟨me, hme⟩ : ∃ me, me = (edges Qh n).length := ⟨_, rfl⟩
        rw [← hme] at he ⊢
        clear hme hoe hR2
        obtain rfl : me = 0 := by omega
        have hyT := hT.one
        have f1 := hbr.frozen 0
        have hfin := (hbr.set_ 0 (.slice (some ⟨gT, 0, none⟩) n n)).one
        have hbf := hU5.setCell (p := ⟨w.heap.size + 1, 0, none⟩) (by simp) (.slice (some ⟨gT, 0, none⟩) n n)
        have e1 := hbr.one
        go_wp2
        generalize w5.setCell ⟨w.heap.size + 1, 0, none⟩ (.slice (some ⟨gT, 0, none⟩) n n) = Wf at hfin hbf ⊢
        refine bodyPost_ret (v := .tuple #[.agg #[.slice (some ⟨gT, 0, none⟩) n n], .bool true]) ?_ rfl ?_
        · simp [results, Try.results68, go_sem, hfin]
        exact ⟨some ⟨gT, 0, none⟩, n, n, by rw [HC.out, HR2.out], hbf⟩
end Go.Proofs.Ytlcmfangecbdgaa
