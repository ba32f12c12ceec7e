/- Walks of chapter 13: ForcedArcs, the reference's. -/
import Derived.Test.YtlcmfangecbdgaaPure13g
import Derived.Test.YtlcmfangecbdgaaW13j
namespace Go.Proofs.Ytlcmfangecbdgaa
open Go.RowKit
/-- Behind an append to another slice of rows. -/
theorem OwnS.kept_top {w w' : World} {b base' n c n2 c2 : Nat} {A A2 : Option Addr} {qs : List RowP} {vs : List Value} (h : OwnS w b A n c qs) (ht : w.ownsRow base' 22 1 (.slice A2 n2 c2) n2 vs) (hg : w.grownBy w' (Value.slice A2 n2 c2).ownBlock)
    (hne : ∀ j, (Value.slice A2 n2 c2).ownBlock = some j → (Value.slice A n c).ownBlock ≠ some j) : OwnS w' b A n c qs := by
  refine ⟨World.ownsRow.kept h.top hg ?_, fun q hq => (h.rows q hq).kept hg ((h.rows q hq).ne_top ht), h.apart⟩
  rcases hv : (Value.slice A n c).ownBlock with _ | k
  · exact .inl rfl
  · exact .inr fun e => hne k e.symm hv
/-- A row more, the new slice's block said. -/
theorem wpList_pushF {ops : Array Oper} {rest : List Oper} {o : Oper} {a : Act} {Q : Exit → Act → World → Prop} {w : World} (hgd : o.guard = none) (s x : Operand)
    (ho : o.op = .call { callee := .builtin .append, args := #[s, x], argTypes := #[36, 36] }) {base n c : Nat} {A : Option Addr} {ps : List RowP} (p : RowP) (hs : a.eval s = .slice A n c) (hown : OwnS w base A n c ps)
    (ad : Addr) (hx : a.eval x = .slice (some ad) 1 1) (hc : w.cell? ad = some (rowV p)) (hrow : OwnI w base p.1.1 p.2.length p.1.2 p.2) (hap : ∀ q ∈ ps, ∀ j, (rowV q).ownBlock = some j → (rowV p).ownBlock ≠ some j) (hn : n ≤ 1048576) (hbase : base ≤ w.heap.size)
    (h : ∀ A' c' w', OwnS w' base A' (n + 1) c' (ps ++ [p]) → w.grownBy w' (Value.slice A n c).ownBlock → Below base w w' → FreshFrom w (.slice A n c) (.slice A' (n + 1) c') → wpList Try.prog ops Q rest (a.put o.dst (.slice A' (n + 1) c')) w') : wpList Try.prog ops Q (o :: rest) a w :=
  wpList_plain hgd fun K hKK => by
    obtain ⟨i0, hi, hz0, hz1, hz2⟩ := info_parts Try.infoS
    refine wp_push2 s x 36 22 ho i0 (.slice none 0 0) 24 Try.underlying36 hi hz0 hz1 hz2 rfl hs hown.top ad _ hx hc rfl (by unfold maxLen; omega) (by omega) hbase fun A' c' w' h2 h3 h4 => ?_
    refine hKK _ _ (h A' c' w' ⟨by rw [List.map_append]; exact h2, fun q hq => ?_, ?_⟩ h3 ((Below.refl _ _).grown h3 hbase fun k hk => (World.ownsRow.lt hown.top k hk).1) h4)
    · rcases List.mem_append.1 hq with hq | hq
      · exact (hown.rows q hq).kept h3 ((hown.rows q hq).ne_top hown.top)
      · obtain rfl : q = p := by simpa using hq
        exact hrow.kept h3 (hrow.ne_top hown.top)
    · rw [List.pairwise_append]
      exact ⟨hown.apart, List.pairwise_singleton _ _, fun q hq r hr => by
        obtain rfl : r = p := by simpa using hr
        exact hap q hq⟩
theorem snoc_lenP {l : List (Nat × Nat)} {p : Nat × Nat} : (l ++ [p]).length = l.length + 1 := by simp
/-- One row of two numbers. -/
theorem OwnS.one {w : World} {g base : Nat} (h : w.heap.size = g) (hb : base ≤ g) (x y : Int) : OwnS ((w.alloc (.cells #[.int .i64 x, .int .i64 y] 3)).alloc (.cells #[.slice (some ⟨g, 0, none⟩) 2 2] 22)) base (some ⟨g + 1, 0, none⟩) 1 1 [((some ⟨g, 0, none⟩, 2), [x, y])] := by
  refine ⟨(Blk.new_at (w := w.alloc (.cells #[.int .i64 x, .int .i64 y] 3)) (by simp [h])).own (n := 1) (by omega) rfl (by decide), fun p hp => ?_, List.pairwise_singleton _ _⟩
  obtain rfl : p = ((some ⟨g, 0, none⟩, 2), [x, y]) := by simpa using hp
  exact (row2_own h hb x y).alloc _
theorem shared_apart {w w0 : World} {bL m d k : Nat} {AL : Option Addr} {ps qs : List RowP} {p : RowP} (hL : OwnS w bL AL m d qs) (hold : ∀ q ∈ ps, (∀ j, (rowV q).ownBlock = some j → j < bL) ∨ q ∈ qs.take k) (hk : qs[k]? = some p) (_ : w0 = w) :
    ∀ q ∈ ps, ∀ j, (rowV q).ownBlock = some j → (rowV p).ownBlock ≠ some j := by
  intro q hq j e1 e2
  have hp := List.mem_of_getElem? hk
  rcases hold q hq with h | h
  · have := h j e1
    have := ((hL.rows p hp).block j e2).1
    omega
  · obtain ⟨i, hi, rfl⟩ := List.mem_iff_getElem.1 h
    rw [List.length_take] at hi
    have hkl : k < qs.length := by
      rcases Nat.lt_or_ge k qs.length with h2 | h2
      · exact h2
      · rw [List.getElem?_eq_none h2] at hk; cases hk
    have e : qs[k] = p := by rw [List.getElem?_eq_getElem hkl] at hk; injection hk
    have := List.pairwise_iff_getElem.1 hL.apart i k (by omega) hkl (by omega) j
    rw [List.getElem_take] at e1
    exact this e1 (by rw [e]; exact e2)
def frcOf (N : Int) (X : List Int) (a b : Int) : List (Nat × Nat) := if hasEdge N X a b then frcR (X.map Int.toNat) N.toNat 50 [(a.toNat, b.toNat)] 0 else []
theorem frcOf_no {N : Int} {X : List Int} {a b : Int} (h : hasEdge N X a b = false) : frcOf N X a b = [] := by rw [frcOf, h]; rfl
theorem frcOf_ok {n a b : Nat} {Q : List Nat} (h : hasEdge n (ints Q) a b = true) : frcOf n (ints Q) a b = frcR Q n 50 [(a, b)] 0 := by
  have e : (ints Q).map Int.toNat = Q := by simp [ints, List.map_map, Function.comp_def]
  rw [frcOf, if_pos h, e, Int.toNat_natCast, Int.toNat_natCast, Int.toNat_natCast]
theorem specHasEdge_is {N : Int} {A : Option Addr} {n c : Nat} {X : List Int} {a b : Int} {w : World} {f : Bool} (hX : RI w A n X) (hn : n ≤ 9223372036854775807) (hf : hasEdge N X a b = f) :
    Calls Try.prog 57 #[.agg #[.int .i64 N, .slice A n c], .int .i64 a, .int .i64 b] w fun e w' => e = .returned (.bool f) ∧ Below w.heap.size w w' := by
  subst hf; exact specHasEdge_any N A n c X a b w hX hn
set_option maxRecDepth 100000 in
set_option maxHeartbeats 4000000 in
theorem specForcedArcs_any (N : Int) (A : Option Addr) (n c : Nat) (X : List Int) (a b : Int) (w : World) (hX : RI w A n X) (hn : n ≤ 9223372036854775807) :
    Calls Try.prog 30 #[.agg #[.int .i64 N, .slice A n c], .int .i64 a, .int .i64 b] w (GivesS ((frcOf N X a b).map row2) w) := by
  have hbk := Blk.new w 27 #[.int .i64 N, .slice A n c]
  have hU0 : Up w (w.alloc (.cells #[.int .i64 N, .slice A n c] 27)) := by go_grown
  obtain ⟨f, hf⟩ : ∃ f, f = hasEdge N X a b := ⟨_, rfl⟩
  have HF := Lib.hid hf.symm
  clear hf
  cases f
  · rw [frcOf_no HF.out]
    go_enter Try.func30, Try.ntmps30
    go_wp2_with fail
    refine (specHasEdge_is (hX.up hU0) hn HF.out).mono ?_
    rintro e w1 ⟨rfl, hb1⟩
    have hU1 := Up.then_ hU0 hb1
    have hown0 := OwnS.made (base := w.heap.size) (w := w1) rfl hU1.size
    have hww := hU1.alloc hU1.size (.cells #[] 22)
    go_wp2
    go_ret
    exact ⟨some ⟨w1.heap.size, 0, none⟩, 0, [], rfl, rfl, hown0, hww⟩
  · rcases hasEdge_cases N X a b with he | ⟨k, i0, j0, Q, rfl, rfl, rfl, rfl, h, hi0, hj0⟩
    · rw [HF.out] at he; cases he
    obtain rfl : n = k := by rw [← hX.1, ints_len, h.len]
    have h7 := h.le
    rw [frcOf_ok HF.out]
    obtain ⟨R, hR⟩ : ∃ R, R = frcR Q n 50 [(i0, j0)] 0 := ⟨_, rfl⟩
    have HR := Lib.hid (show frcR Q n 50 [(i0, j0)] 0 = R from hR.symm)
    rw [← hR]
    clear hR
    go_enter Try.func30, Try.ntmps30
    go_wp2_with fail
    refine (specHasEdge_is (hX.up hU0) hn HF.out).mono ?_
    rintro e w1 ⟨rfl, hb1⟩
    have hU1 := Up.then_ hU0 hb1
    have hbk1 := (hbk.up hb1).alloc (.cells #[.int .i64 (i0 : Int), .int .i64 (j0 : Int)] 3) |>.alloc (.cells #[.slice (some ⟨w1.heap.size, 0, none⟩) 2 2] 22)
    have hone := OwnS.one (w := w1) (g := w1.heap.size) (base := w.heap.size + 1) rfl (by have := (hbk.up hb1).lt; omega) (i0 : Int) (j0 : Int)
    obtain ⟨w2, hw2⟩ : ∃ w2, w2 = (w1.alloc (.cells #[.int .i64 (i0 : Int), .int .i64 (j0 : Int)] 3)).alloc (.cells #[.slice (some ⟨w1.heap.size, 0, none⟩) 2 2] 22) := ⟨_, rfl⟩
    have hU2 : Up w1 w2 := by rw [hw2]; go_grown
    rw [← hw2] at hbk1 hone
    have hU12 := Up.then_ hU1 hU2
    clear hbk
    go_wp2_with fail
    rw [← hw2]
    clear hw2
    go_loopw [7, 8] (fun o s wr => ∃ (i f : Nat) (out : List (Nat × Nat)) (A3 : Option Addr) (c3 : Nat) (ps : List RowP), f + i = 50 ∧ s = .int .i64 (i : Nat) ∧ o = .slice A3 out.length c3 ∧ OwnS wr (w.heap.size + 1) A3 out.length c3 ps ∧ Hid (ps.map Prod.snd = out.map row2 ∧ Good n Q out ∧ frcR Q n f out i = R) ∧ Blk wr w.heap.size 27 #[.int .i64 n, .slice A n c] ∧ Below (w.heap.size + 1) w2 wr) (fun _ s _ => 51 - (intOf s).toNat)
    case atStart => exact ⟨0, 50, [(i0, j0)], _, 1, [((some ⟨w1.heap.size, 0, none⟩, 2), [(i0 : Int), (j0 : Int)])], by omega, rfl, rfl, hone, ⟨rfl, ⟨by simp, fun p hp => by
      obtain rfl : p = (i0, j0) := by simpa using hp
      exact ⟨hi0, hj0⟩⟩, HR.out⟩, hbk1, Below.refl _ _⟩
    case round =>
      clear hone hbk1
      obtain ⟨i, f, out, A3, c3, ps, hfi, rfl, rfl, hO, hP, hbk, hb⟩ := hrel
      obtain ⟨wo, rfl⟩ : ∃ wo : World, wo = wr := ⟨_, rfl⟩
      have ho49 := hP.out.2.1.len h7
      have hyo := hbk.two
      have hlo := hbk.lt
      have hUw : Up w wo := hU12.trans (hb.mono (by omega))
      by_cases hit : i < out.length
      · obtain ⟨gO, r, d, rfl, hkl, hc, h0, h1, hlO, hlr, _, _⟩ := hO.arc hP.out.1 hit
        have hlt := hP.out.2.1.lt out[i] (List.getElem_mem hkl)
        obtain ⟨f', rfl⟩ : ∃ f', f = f' + 1 := ⟨f - 1, by omega⟩
        have HSt := Lib.hid (show frcR Q n f' (addK out (nxt Q n out[i].1 out[i].2) (nxt Q n out[i].1 out[i].2).length) (i + 1) = R by
          rw [← hP.out.2.2, frcR_step hkl, prAt_eq hkl])
        obtain ⟨p, hp⟩ : ∃ p, p = out[i] := ⟨_, rfl⟩
        rw [← hp] at h0 h1 hlt HSt
        clear hp
        obtain ⟨p1, p2⟩ := p
        simp only at h0 h1 hlt HSt
        have HNl := Lib.hid (nxt_len Q h7 p1 p2)
        obtain ⟨nx, hnx⟩ : ∃ nx, nx = nxt Q n p1 p2 := ⟨_, rfl⟩
        have HNx := Lib.hid (show ∀ p ∈ nx, p.1 < n ∧ p.2 < n by rw [hnx]; exact nxt_lt)
        rw [← hnx] at HSt HNl
        have HNE := Lib.hid hnx
        have hXo := hX.up hUw
        clear hnx
        go_wp2
        have hV0 : Up wo wo.drew := (Up.refl _).drew
        go_region_held3 (fun w' => Up wo w' ∧ (∀ b o, b < wo.heap.size → w'.cell? ⟨b, o, none⟩ = wo.cell? ⟨b, o, none⟩) ∧ w'.cell? (⟨gO, i, none⟩) = some (.slice (some ⟨r, 0, none⟩) 2 d) ∧ w'.cell? (⟨r, 0, none⟩) = some (.int .i64 (p1 : Nat)) ∧ w'.cell? (⟨r, 1, none⟩) = some (.int .i64 (p2 : Nat))) (first | exact (by exact ⟨hV1, fun _ _ hb => hV1.cell hb, (hV1.cell (by first | assumption | (rw [block_of_add]; assumption))).trans (by assumption), (hV1.cell (by first | assumption | (rw [block_of_add]; assumption))).trans (by assumption), (hV1.cell (by first | assumption | (rw [block_of_add]; assumption))).trans (by assumption)⟩) | exact (by exact ⟨hV0, fun _ _ hb => hV0.cell hb, (hV0.cell (by first | assumption | (rw [block_of_add]; assumption))).trans (by assumption), (hV0.cell (by first | assumption | (rw [block_of_add]; assumption))).trans (by assumption), (hV0.cell (by first | assumption | (rw [block_of_add]; assumption))).trans (by assumption)⟩)) (first | (go_at_call 59; refine (l13Next_any A n c p1 p2 Q _ (hXo.up hV0) h hlt.1 hlt.2).mono ?_; rintro e w20 ⟨AL, cL, qs, hqs, rfl, hoL, hb20⟩; have hV1 := Up.then_ hV0 hb20))
        have hU2 := hV1
        have HQ := Lib.hid (show qs.map Prod.snd = nx.map row2 by rw [HNE.out]; exact hqs)
        have HQl := Lib.hid (show qs.length = nx.length by have := congrArg List.length HQ.out; simpa using this)
        have hO2 := hO.up hU2
        have hbk2 := hbk.up hU2
        have hb2 := hb.trans (hU2.mono (by omega) : Below (w.heap.size + 1) wo w20)
        have hoL2 : OwnS w20 wo.heap.size AL qs.length cL qs := hoL.more (by rw [World.size_drew]; exact Nat.le_refl _)
        have htop : ∀ j, (Value.slice (some ⟨gO, 0, none⟩) out.length c3).ownBlock = some j → (Value.slice AL qs.length cL).ownBlock ≠ some j := fun j e1 e2 => by
          have := (hoL2.block j e2).1
          have := (hO.block j e1).2
          omega
        have hold : ∀ q ∈ ps, (∀ j, (rowV q).ownBlock = some j → j < wo.heap.size) ∨ q ∈ qs.take 0 := fun q hq => .inl fun j e => ((hO.rows q hq).block j e).2
        clear hqs hoL hXo hb20 hV1
        obtain ⟨ml, hml⟩ : ∃ ml, ml = qs.length := ⟨_, rfl⟩
        have HM := Lib.hid hml
        have hm98 : ml ≤ 1000 := by have := HNl.out; have := HQl.out; omega
        rw [← hml] at hoL2 htop ⊢
        clear hml
        go_wp2
        go_loopw [7, 10] (fun o s wr => ∃ (k : Nat) (oK : List (Nat × Nat)) (A4 : Option Addr) (c4 : Nat) (pk : List RowP), k ≤ ml ∧ s = .int .i64 (k : Nat) ∧ o = .slice A4 oK.length c4 ∧ OwnS wr (w.heap.size + 1) A4 oK.length c4 pk ∧ OwnS wr wo.heap.size AL ml cL qs ∧ Hid (pk.map Prod.snd = oK.map row2 ∧ oK = addK out nx k ∧ (∀ q ∈ pk, (∀ j, (rowV q).ownBlock = some j → j < wo.heap.size) ∨ q ∈ qs.take k)) ∧ (∀ j, (Value.slice A4 oK.length c4).ownBlock = some j → (Value.slice AL ml cL).ownBlock ≠ some j) ∧ Blk wr w.heap.size 27 #[.int .i64 n, .slice A n c] ∧ Below (w.heap.size + 1) w20 wr) (fun _ s _ => ml - (intOf s).toNat)
        case atStart => exact ⟨0, out, _, c3, ps, Nat.zero_le _, rfl, rfl, hO2, hoL2, ⟨hP.out.1, rfl, hold⟩, htop, hbk2, Below.refl _ _⟩
        case round =>
          clear hO2 hoL2 hold htop hbk2
          obtain ⟨k, oK, A4, c4, pk, hk, rfl, rfl, hO4, hL4, hPk, htop, hbk4, hb4⟩ := hrel
          obtain ⟨wi, rfl⟩ : ∃ wi : World, wi = wr := ⟨_, rfl⟩
          have hyo4 := hbk4.two
          have hlo4 := hbk4.lt
          by_cases hkl2 : k < ml
          · obtain ⟨gL, r2, d2, rfl, hkn, hc2, h02, h12, hlL, hlr2, hrow2, hqk⟩ := hL4.arc HQ.out hkl2
            have hoK : oK.length ≤ 49 := by
              rw [hPk.out.2.1]
              exact (hP.out.2.1.add HNx.out k (by have := HQl.out; have := HM.out; omega)).len h7
            have HPR := Lib.hid (prAt_eq hkn)
            obtain ⟨p, hp⟩ : ∃ p, p = nx[k] := ⟨_, rfl⟩
            rw [← hp] at h02 h12 hrow2 hqk HPR
            clear hp
            obtain ⟨x, y⟩ := p
            simp only at h02 h12 hrow2 hqk
            obtain ⟨z, hz⟩ : ∃ z, fndZ oK (x, y) = z := ⟨_, rfl⟩
            have HZ := Lib.hid hz
            have hzd := fndZ_neg oK (x, y)
            rw [hz] at hzd
            clear hz
            by_cases hm : (x, y) ∈ oK
            · rw [decide_eq_true hm] at hzd
              have hz0 : ¬ z < 0 := of_decide_eq_false hzd
              have HA := Lib.hid (show oK = addK out nx (k + 1) by
                rw [hPk.out.2.1, addK_in]
                rw [← hPk.out.2.1, HPR.out]; exact hm)
              clear hm hzd
              go_wp2
              have hV0 : Up wi wi.drew := (Up.refl _).drew
              refine wp_region_calm (S := (fun w' => Up wi w' ∧ (∀ b o, b < wi.heap.size → w'.cell? ⟨b, o, none⟩ = wi.cell? ⟨b, o, none⟩) ∧ w'.cell? (⟨gL, k, none⟩) = some (.slice (some ⟨r2, 0, none⟩) 2 d2) ∧ w'.cell? (⟨r2, 0, none⟩) = some (.int .i64 (x : Nat)) ∧ w'.cell? (⟨r2, 1, none⟩) = some (.int .i64 (y : Nat)))) (by kernel_rfl) (by kernel_rfl) (by exact ⟨hV0, fun _ _ hb => hV0.cell hb, (hV0.cell (by first | assumption | (rw [block_of_add]; assumption))).trans (by assumption), (hV0.cell (by first | assumption | (rw [block_of_add]; assumption))).trans (by assumption), (hV0.cell (by first | assumption | (rw [block_of_add]; assumption))).trans (by assumption)⟩) ?_
              repeat (first | (refine CalmSeq.cons undef (Calm.off (by rfl)) ?_; (try simp only [Act.put, List.setIfInBounds_toArray, List.set_cons_zero, List.set_cons_succ])) | (refine CalmSeq.cons ?_ (Calm.val (by rfl) ?_) ?_; rotate_left; (intro wC hSw; (try dsimp only at hSw); go_simp; done); (try simp only [Act.put, List.setIfInBounds_toArray, List.set_cons_zero, List.set_cons_succ])) | (refine CalmSeq.cons ?_ (Calm.val (by rfl) ?_) ?_; rotate_left; (intro wC hSw; (try dsimp only at hSw); go_simp; with_reducible rfl); (try simp only [Act.put, List.setIfInBounds_toArray, List.set_cons_zero, List.set_cons_succ])) | ((refine CalmSeq.cons ?_ (Calm.call (f := ?_) (args := ?_) (by rfl) ?_ (fun wC hSw => ?_)) ?_; rotate_left 3; (intro wC; go_simp; (refine ⟨?_, ?_⟩ <;> with_reducible rfl)); (go_at_call 58; (with_reducible refine (l13Find_up (hO4.up hSw.1) hPk.out.1 (by omega) HZ.out).mono ?_); rintro e wD ⟨rfl, hbD⟩; apply And.intro; (with_reducible rfl); (have hUD := Up.then_ hSw.1 hbD; exact ⟨hUD, fun _ _ hb => hUD.cell hb, (hUD.cell (by first | assumption | (rw [block_of_add]; assumption))).trans (by assumption), (hUD.cell (by first | assumption | (rw [block_of_add]; assumption))).trans (by assumption), (hUD.cell (by first | assumption | (rw [block_of_add]; assumption))).trans (by assumption)⟩))); (try simp only [Act.put, List.setIfInBounds_toArray, List.set_cons_zero, List.set_cons_succ])))
              intro w3 hS3
              have hU3 : Up wi w3 := hS3.1
              clear hS3 hV0
              go_wp2
              go_roundw
              case rel => exact ⟨k + 1, oK, A4, c4, pk, by omega, by go_num, rfl, hO4.up hU3, hL4.up hU3, ⟨hPk.out.1, HA.out, fun q hq => (hPk.out.2.2 q hq).imp id fun h => List.take_subset_take_left qs (Nat.le_succ k) h⟩, htop, hbk4.up hU3, hb4.trans (hU3.mono (by omega))⟩
              case measure => simp [intOf]; omega
            · rw [decide_eq_false hm] at hzd
              have hz0 : z < 0 := of_decide_eq_true hzd
              have HA := Lib.hid (show oK ++ [(x, y)] = addK out nx (k + 1) by
                rw [addK_new (by rw [← hPk.out.2.1, HPR.out]; exact hm), ← hPk.out.2.1, HPR.out])
              have HMp := Lib.hid (show List.map Prod.snd (pk ++ [(((some (⟨r2, 0, none⟩ : Addr), d2), [(x : Int), (y : Int)]) : RowP)]) = (oK ++ [(x, y)]).map row2 by rw [List.map_append, hPk.out.1]; simp [row2])
              clear hm hzd
              go_wp2
              have hV0 : Up wi wi.drew := (Up.refl _).drew
              refine wp_region_calm (S := (fun w' => Up wi w' ∧ (∀ b o, b < wi.heap.size → w'.cell? ⟨b, o, none⟩ = wi.cell? ⟨b, o, none⟩) ∧ w'.cell? (⟨gL, k, none⟩) = some (.slice (some ⟨r2, 0, none⟩) 2 d2) ∧ w'.cell? (⟨r2, 0, none⟩) = some (.int .i64 (x : Nat)) ∧ w'.cell? (⟨r2, 1, none⟩) = some (.int .i64 (y : Nat)))) (by kernel_rfl) (by kernel_rfl) (by exact ⟨hV0, fun _ _ hb => hV0.cell hb, (hV0.cell (by first | assumption | (rw [block_of_add]; assumption))).trans (by assumption), (hV0.cell (by first | assumption | (rw [block_of_add]; assumption))).trans (by assumption), (hV0.cell (by first | assumption | (rw [block_of_add]; assumption))).trans (by assumption)⟩) ?_
              repeat (first | (refine CalmSeq.cons undef (Calm.off (by rfl)) ?_; (try simp only [Act.put, List.setIfInBounds_toArray, List.set_cons_zero, List.set_cons_succ])) | (refine CalmSeq.cons ?_ (Calm.val (by rfl) ?_) ?_; rotate_left; (intro wC hSw; (try dsimp only at hSw); go_simp; done); (try simp only [Act.put, List.setIfInBounds_toArray, List.set_cons_zero, List.set_cons_succ])) | (refine CalmSeq.cons ?_ (Calm.val (by rfl) ?_) ?_; rotate_left; (intro wC hSw; (try dsimp only at hSw); go_simp; with_reducible rfl); (try simp only [Act.put, List.setIfInBounds_toArray, List.set_cons_zero, List.set_cons_succ])) | ((refine CalmSeq.cons ?_ (Calm.call (f := ?_) (args := ?_) (by rfl) ?_ (fun wC hSw => ?_)) ?_; rotate_left 3; (intro wC; go_simp; (refine ⟨?_, ?_⟩ <;> with_reducible rfl)); (go_at_call 58; (with_reducible refine (l13Find_up (hO4.up hSw.1) hPk.out.1 (by omega) HZ.out).mono ?_); rintro e wD ⟨rfl, hbD⟩; apply And.intro; (with_reducible rfl); (have hUD := Up.then_ hSw.1 hbD; exact ⟨hUD, fun _ _ hb => hUD.cell hb, (hUD.cell (by first | assumption | (rw [block_of_add]; assumption))).trans (by assumption), (hUD.cell (by first | assumption | (rw [block_of_add]; assumption))).trans (by assumption), (hUD.cell (by first | assumption | (rw [block_of_add]; assumption))).trans (by assumption)⟩))); (try simp only [Act.put, List.setIfInBounds_toArray, List.set_cons_zero, List.set_cons_succ])))
              intro w3 hS3
              have hU3 : Up wi w3 := hS3.1
              clear hS3 hV0
              have hO5 := hO4.up hU3
              have hL5 := hL4.up hU3
              have hbk5 := (hbk4.up hU3).alloc (.cells #[.slice (some ⟨r2, 0, none⟩) 2 d2] 22)
              have hb5 := hb4.trans (hU3.mono (by omega) : Below (w.heap.size + 1) wi w3)
              have hc5 := (hU3.cell hlL).trans hc2
              have hrow5 := (show OwnI w3 (w.heap.size + 1) (some ⟨r2, 0, none⟩) 2 d2 [(x : Int), (y : Int)] from (hrow2.up hU3).more (by omega)).alloc (.cells #[.slice (some ⟨r2, 0, none⟩) 2 d2] 22)
              have hap := shared_apart hL5 hPk.out.2.2 hqk rfl
              have hcell := cell_lit (w := w3) (g := w3.heap.size) (e := 22) (y := .slice (some ⟨r2, 0, none⟩) 2 d2) (by simp)
              have hl3 := hU3.size
              clear hyo4 hc2 h02 h12
              go_wp2_with (at_builtin; refine wpList_pushF rfl (.tmp 62) (.tmp 67) rfl ((some ⟨r2, 0, none⟩, d2), [(x : Int), (y : Int)]) rfl (hO5.alloc _) ⟨w3.heap.size, 0, none⟩ rfl hcell hrow5 hap (by omega) (by simp; omega) ?_; intro A7 c7 w7 hO7 hg7 hb7 hF7)
              go_roundw
              case rel =>
                refine ⟨k + 1, oK ++ [(x, y)], A7, c7, pk ++ [((some ⟨r2, 0, none⟩, d2), [(x : Int), (y : Int)])], by omega, by go_num, by rw [snoc_lenP], by rw [snoc_lenP]; exact hO7, (hL5.alloc _).kept_top (hO5.alloc _).top hg7 htop, ⟨HMp.out, HA.out, fun q hq => ?_⟩, fun j e => ?_, hbk5.below hb7 (by omega), (hb5.alloc (by omega) _).trans hb7⟩
                · rcases List.mem_append.1 hq with hq | hq
                  · exact (hPk.out.2.2 q hq).imp id fun h => List.take_subset_take_left qs (Nat.le_succ k) h
                  · obtain rfl : q = _ := List.mem_singleton.1 hq
                    refine .inr (List.mem_of_getElem? (i := k) ?_)
                    rw [List.getElem?_take_of_lt (Nat.lt_succ_self k)]
                    exact hqk
                · rw [snoc_lenP] at e
                  rcases hF7 j e with e | e
                  · exact htop j e
                  · intro e2
                    have := (hL5.block j e2).2
                    rw [World.size_alloc] at e
                    omega
              case measure => simp [intOf]; omega
          · obtain rfl : k = ml := by omega
            have HG := Lib.hid (show Good n Q oK by
              rw [hPk.out.2.1]
              exact hP.out.2.1.add HNx.out k (by have := HQl.out; have := HM.out; omega))
            have HF2 := Lib.hid (show frcR Q n f' oK (i + 1) = R by
              rw [hPk.out.2.1, show k = nx.length by have := HQl.out; have := HM.out; omega]; exact HSt.out)
            go_wp2
            go_roundw
            case rel => exact ⟨i + 1, f', oK, A4, c4, pk, by omega, by go_num, rfl, hO4, ⟨hPk.out.1, HG.out, HF2.out⟩, hbk4, hb2.trans hb4⟩
            case measure => simp [intOf]; omega
      · have HE := Lib.hid (show ps.map Prod.snd = R.map row2 by rw [hP.out.1, ← hP.out.2.2, frcR_end hit])
        have HPl := Lib.hid (show ps.length = out.length by have := congrArg List.length hP.out.1; simpa using this)
        go_wp2
        go_ret
        refine ⟨A3, c3, ps, HE.out, ?_, ?_, hUw⟩
        · rw [HPl.out]; rfl
        · rw [HPl.out]; exact hO.more (by omega)
end Go.Proofs.Ytlcmfangecbdgaa
