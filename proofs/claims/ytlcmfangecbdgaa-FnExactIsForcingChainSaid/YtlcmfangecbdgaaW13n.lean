/- Walks of chapter 13: all that an arc forces, the program's; ForcedArcs. -/
import Derived.Test.YtlcmfangecbdgaaW13m
namespace Go.Proofs.Ytlcmfangecbdgaa
open Go.RowKit
/-- A number more, the new slice's block said. -/
theorem wpList_pushI {ops : Array Oper} {rest : List Oper} {o : Oper} {a : Act} {Q : Exit → Act → World → Prop} {w : World} (hgd : o.guard = none) (s x : Operand)
    (ho : o.op = .call { callee := .builtin .append, args := #[s, x], argTypes := #[22, 22] }) {base n c : Nat} {A : Option Addr} {xs : List Int} (y : Int) (hs : a.eval s = .slice A n c) (hown : OwnI w base A n c xs)
    (ad : Addr) (hx : a.eval x = .slice (some ad) 1 1) (hc : w.cell? ad = some (.int .i64 y)) (hn : n ≤ 1048576) (hbase : base ≤ w.heap.size)
    (h : ∀ A' c' w', OwnI w' base A' (n + 1) c' (xs ++ [y]) → w.grownBy w' (Value.slice A n c).ownBlock → Below base w w' → FreshFrom w (.slice A n c) (.slice A' (n + 1) c') → wpList Try.prog ops Q rest (a.put o.dst (.slice A' (n + 1) c')) w') : wpList Try.prog ops Q (o :: rest) a w :=
  wpList_plain hgd fun K hKK => by
    obtain ⟨i0, hi, hz0, hz1, hz2⟩ := info_parts Try.info3
    refine wp_push2 s x 22 3 ho i0 (.int .i64 0) 8 Try.underlying22 hi hz0 hz1 hz2 rfl hs hown ad _ hx hc rfl (by unfold maxLen; omega) (by omega) hbase fun A' c' w' h2 h3 h4 => ?_
    refine hKK _ _ (h A' c' w' ?_ h3 ((Below.refl _ _).grown h3 hbase fun k hk => (World.ownsRow.lt hown k hk).1) h4)
    unfold OwnI
    rw [List.map_append]
    exact h2
/-- Behind an append to a slice of numbers. -/
theorem OwnS.kept_int {w w' : World} {b b' n c m d : Nat} {A B : Option Addr} {ps : List RowP} {ys : List Int} (h : OwnS w b A n c ps) (hB : OwnI w b' B m d ys) (hg : w.grownBy w' (Value.slice B m d).ownBlock)
    (hne : ∀ q ∈ ps, ∀ j, (rowV q).ownBlock = some j → (Value.slice B m d).ownBlock ≠ some j) : OwnS w' b A n c ps := by
  refine ⟨World.ownsRow.kept h.top hg ?_, fun q hq => (h.rows q hq).kept hg ?_, h.apart⟩
  · rcases hv : (Value.slice A n c).ownBlock with _ | k
    · exact .inl rfl
    · rcases hB.ne_top h.top with e | e
      · exact .inr (by rw [e]; simp)
      · exact .inr fun e2 => e (by rw [← e2, hv])
  · rcases hv : (Value.slice q.1.1 q.2.length q.1.2).ownBlock with _ | k
    · exact .inl rfl
    · exact .inr fun e2 => hne q hq k hv e2.symm
theorem one_own13 {w : World} {g : Nat} (h : w.heap.size = g) {base : Nat} (hb : base ≤ g) (x : Int) : OwnI (w.alloc (.cells #[.int .i64 x] 3)) base (some ⟨g, 0, none⟩) 1 1 [x] := (OwnI.of_blk (L := [x]) (Blk.new_at h) rfl (by simp)).more hb
theorem indexOf_is {A B : Option Addr} {n c base d : Nat} {ps : List RowP} {l : List (Nat × Nat)} {xy : Nat × Nat} {z : Int} {w : World} (hA : OwnS w base A n c ps) (hl : ps.map Prod.snd = l.map row2) (hn : n ≤ 1048576) (hr : RI w B 2 [(xy.1 : Int), (xy.2 : Int)]) (hz : fndZ l xy = z) :
    Calls Try.prog 62 #[.slice A n c, .slice B 2 d] w fun e w' => e = .returned (.int .i64 z) ∧ Below w.heap.size w w' := by
  subst hz; exact indexOf_any xy hA hl hn hr
set_option maxRecDepth 100000 in
set_option maxHeartbeats 4000000 in
theorem forced_any (A : Option Addr) (n c i0 j0 : Nat) (Q : List Nat) (w : World) (hX : RI w A n (ints Q)) (h : GOk n Q) (hi0 : i0 < n) (hj0 : j0 < n) :
    Calls Try.prog 64 #[.agg #[.int .i64 n, .slice A n c], .int .i64 i0, .int .i64 j0] w fun e w' => ∃ A' c' ps v, ps.map Prod.snd = (frcR Q n 50 [(i0, j0)] 0).map row2 ∧ e = .returned (.tuple #[.slice A' ps.length c', v]) ∧ OwnS w' w.heap.size A' ps.length c' ps ∧ Below w.heap.size w w' := by
  have hbk := (((Blk.new w 27 #[.int .i64 n, .slice A n c]).alloc (.cells #[.int .i64 (i0 : Int), .int .i64 (j0 : Int)] 3)).alloc (.cells #[.slice (some ⟨w.heap.size + 1, 0, none⟩) 2 2] 22)).alloc (.cells #[.int .i64 (-1)] 3)
  have hone := (OwnS.one (w := w.alloc (.cells #[.int .i64 n, .slice A n c] 27)) (g := w.heap.size + 1) (base := w.heap.size + 1) (by simp) (Nat.le_refl _) (i0 : Int) (j0 : Int)).alloc (.cells #[.int .i64 (-1)] 3)
  have hfr := one_own13 (w := ((w.alloc (.cells #[.int .i64 n, .slice A n c] 27)).alloc (.cells #[.int .i64 (i0 : Int), .int .i64 (j0 : Int)] 3)).alloc (.cells #[.slice (some ⟨w.heap.size + 1, 0, none⟩) 2 2] 22)) (g := w.heap.size + 3) (by simp) (base := w.heap.size + 1) (by omega) (-1)
  have hU2 : Up w ((((w.alloc (.cells #[.int .i64 n, .slice A n c] 27)).alloc (.cells #[.int .i64 (i0 : Int), .int .i64 (j0 : Int)] 3)).alloc (.cells #[.slice (some ⟨w.heap.size + 1, 0, none⟩) 2 2] 22)).alloc (.cells #[.int .i64 (-1)] 3)) := by go_grown
  have h7 := h.le
  obtain ⟨R, hR⟩ : ∃ R, R = frcR Q n 50 [(i0, j0)] 0 := ⟨_, rfl⟩
  have HR := Lib.hid (show frcR Q n 50 [(i0, j0)] 0 = R from hR.symm)
  rw [← hR]
  clear hR
  obtain ⟨W, hW⟩ : ∃ W, W = (((w.alloc (.cells #[.int .i64 n, .slice A n c] 27)).alloc (.cells #[.int .i64 (i0 : Int), .int .i64 (j0 : Int)] 3)).alloc (.cells #[.slice (some ⟨w.heap.size + 1, 0, none⟩) 2 2] 22)).alloc (.cells #[.int .i64 (-1)] 3) := ⟨_, rfl⟩
  rw [← hW] at hbk hone hfr hU2
  go_enter Try.func64, Try.ntmps64
  go_wp2_with fail
  rw [← hW]
  clear hW
  go_loopw [8, 9, 10] (fun o fr s wr => ∃ (i f : Nat) (out : List (Nat × Nat)) (A3 : Option Addr) (c3 : Nat) (ps : List RowP) (B : Option Addr) (m d : Nat) (ys : List Int), f + i = 50 ∧ s = .int .i64 (i : Nat) ∧ o = .slice A3 out.length c3 ∧ fr = .slice B m d ∧ m ≤ out.length ∧ OwnS wr (w.heap.size + 1) A3 out.length c3 ps ∧ OwnI wr (w.heap.size + 1) B m d ys ∧ (∀ q ∈ ps, ∀ j, (rowV q).ownBlock = some j → (Value.slice B m d).ownBlock ≠ some j) ∧ Hid (ps.map Prod.snd = out.map row2 ∧ Good n Q out ∧ frcR Q n f out i = R) ∧ Blk wr w.heap.size 27 #[.int .i64 n, .slice A n c] ∧ Below (w.heap.size + 1) W wr) (fun _ _ s _ => 51 - (intOf s).toNat)
  case atStart => exact ⟨0, 50, [(i0, j0)], _, 1, [((some ⟨w.heap.size + 1, 0, none⟩, 2), [(i0 : Int), (j0 : Int)])], _, 1, 1, [-1], by omega, rfl, rfl, rfl, Nat.le_refl _, hone, hfr, fun q hq j e1 e2 => by
      obtain rfl : q = _ := List.mem_singleton.1 hq
      simp [rowV, Value.ownBlock] at e1 e2
      omega, ⟨rfl, ⟨by simp, fun p hp => by
      obtain rfl : p = (i0, j0) := by simpa using hp
      exact ⟨hi0, hj0⟩⟩, HR.out⟩, hbk, Below.refl _ _⟩
  case round =>
    clear hone hbk hfr
    obtain ⟨i, f, out, A3, c3, ps, B, m, d, ys, hfi, rfl, rfl, rfl, hm, hO, hB, hBp, hP, hbk, hb⟩ := hrel
    obtain ⟨wo, rfl⟩ : ∃ wo : World, wo = wr := ⟨_, rfl⟩
    have ho49 := hP.out.2.1.len h7
    have hyo := hbk.two
    have hlo := hbk.lt
    have hUw : Up w wo := hU2.trans (hb.mono (by omega))
    by_cases hit : i < out.length
    · obtain ⟨gO, r, dr, rfl, hkl, hc, h0, h1, hlO, hlr, _, _⟩ := hO.arc hP.out.1 hit
      have hlt := hP.out.2.1.lt out[i] (List.getElem_mem hkl)
      obtain ⟨f', rfl⟩ : ∃ f', f = f' + 1 := ⟨f - 1, by omega⟩
      have HSt := Lib.hid (show frcR Q n f' (addK out (nxt Q n out[i].1 out[i].2) (nxt Q n out[i].1 out[i].2).length) (i + 1) = R by
        rw [← hP.out.2.2, frcR_step hkl, prAt_eq hkl])
      obtain ⟨p, hp⟩ : ∃ p, p = out[i] := ⟨_, rfl⟩
      rw [← hp] at h0 h1 hlt HSt
      clear hp
      obtain ⟨p1, p2⟩ := p
      simp only at h0 h1 hlt HSt
      have HNl := Lib.hid (nxt_len Q h7 p1 p2)
      obtain ⟨nx, hnx⟩ : ∃ nx, nx = nxt Q n p1 p2 := ⟨_, rfl⟩
      have HNx := Lib.hid (show ∀ p ∈ nx, p.1 < n ∧ p.2 < n by rw [hnx]; exact nxt_lt)
      rw [← hnx] at HSt HNl
      have HNE := Lib.hid hnx
      have hXo := hX.up hUw
      clear hnx
      go_wp2
      have hV0 : Up wo wo.drew := (Up.refl _).drew
      go_region_held3 (fun w' => Up wo w' ∧ (∀ b o, b < wo.heap.size → w'.cell? ⟨b, o, none⟩ = wo.cell? ⟨b, o, none⟩) ∧ w'.cell? (⟨gO, i, none⟩) = some (.slice (some ⟨r, 0, none⟩) 2 dr) ∧ w'.cell? (⟨r, 0, none⟩) = some (.int .i64 (p1 : Nat)) ∧ w'.cell? (⟨r, 1, none⟩) = some (.int .i64 (p2 : Nat))) (first | exact (by exact ⟨hV1, fun _ _ hb => hV1.cell hb, (hV1.cell (by first | assumption | (rw [block_of_add]; assumption))).trans (by assumption), (hV1.cell (by first | assumption | (rw [block_of_add]; assumption))).trans (by assumption), (hV1.cell (by first | assumption | (rw [block_of_add]; assumption))).trans (by assumption)⟩) | exact (by exact ⟨hV0, fun _ _ hb => hV0.cell hb, (hV0.cell (by first | assumption | (rw [block_of_add]; assumption))).trans (by assumption), (hV0.cell (by first | assumption | (rw [block_of_add]; assumption))).trans (by assumption), (hV0.cell (by first | assumption | (rw [block_of_add]; assumption))).trans (by assumption)⟩)) (first | (go_at_call 63; refine (forces_any A n c p1 p2 Q _ (hXo.up hV0) h hlt.1 hlt.2).mono ?_; rintro e w20 ⟨AL, cL, qs, hqs, rfl, hoL, hb20⟩; have hV1 := Up.then_ hV0 hb20))
      have hU2 := hV1
      have HQ := Lib.hid (show qs.map Prod.snd = nx.map row2 by rw [HNE.out]; exact hqs)
      have HQl := Lib.hid (show qs.length = nx.length by have := congrArg List.length HQ.out; simpa using this)
      have hO2 := hO.up hU2
      have hB2 := hB.up hU2
      have hbk2 := hbk.up hU2
      have hb2 := hb.trans (hU2.mono (by omega) : Below (w.heap.size + 1) wo w20)
      have hoL2 : OwnS w20 wo.heap.size AL qs.length cL qs := hoL.more (by rw [World.size_drew]; exact Nat.le_refl _)
      have htop : ∀ j, (Value.slice (some ⟨gO, 0, none⟩) out.length c3).ownBlock = some j → (Value.slice AL qs.length cL).ownBlock ≠ some j := fun j e1 e2 => by
        have := (hoL2.block j e2).1
        have := (hO.block j e1).2
        omega
      have hold : ∀ q ∈ ps, (∀ j, (rowV q).ownBlock = some j → j < wo.heap.size) ∨ q ∈ qs.take 0 := fun q hq => .inl fun j e => ((hO.rows q hq).block j e).2
      have hBq : ∀ q ∈ qs, ∀ j, (rowV q).ownBlock = some j → (Value.slice B m d).ownBlock ≠ some j := fun q hq j e1 e2 => by
        have := ((hoL2.rows q hq).block j e1).1
        have := (hB.block j e2).2
        omega
      clear hqs hoL hXo hb20 hV1
      obtain ⟨ml, hml⟩ : ∃ ml, ml = qs.length := ⟨_, rfl⟩
      have HM := Lib.hid hml
      have hm98 : ml ≤ 1000 := by have := HNl.out; have := HQl.out; omega
      rw [← hml] at hoL2 htop ⊢
      clear hml
      go_wp2
      go_loopw [8, 9, 39] (fun o fr s wr => ∃ (k : Nat) (oK : List (Nat × Nat)) (A4 : Option Addr) (c4 : Nat) (pk : List RowP) (B4 : Option Addr) (m4 d4 : Nat) (ys4 : List Int), k ≤ ml ∧ s = .int .i64 (k : Nat) ∧ o = .slice A4 oK.length c4 ∧ fr = .slice B4 m4 d4 ∧ m4 ≤ oK.length ∧ OwnS wr (w.heap.size + 1) A4 oK.length c4 pk ∧ OwnI wr (w.heap.size + 1) B4 m4 d4 ys4 ∧ OwnS wr wo.heap.size AL ml cL qs ∧ Hid (pk.map Prod.snd = oK.map row2 ∧ oK = addK out nx k ∧ (∀ q ∈ pk, (∀ j, (rowV q).ownBlock = some j → j < wo.heap.size) ∨ q ∈ qs.take k)) ∧ (∀ j, (Value.slice A4 oK.length c4).ownBlock = some j → (Value.slice AL ml cL).ownBlock ≠ some j) ∧ (∀ q ∈ pk, ∀ j, (rowV q).ownBlock = some j → (Value.slice B4 m4 d4).ownBlock ≠ some j) ∧ (∀ q ∈ qs, ∀ j, (rowV q).ownBlock = some j → (Value.slice B4 m4 d4).ownBlock ≠ some j) ∧ Blk wr w.heap.size 27 #[.int .i64 n, .slice A n c] ∧ Below (w.heap.size + 1) w20 wr) (fun _ _ s _ => ml - (intOf s).toNat)
      case atStart => exact ⟨0, out, _, c3, ps, B, m, d, ys, Nat.zero_le _, rfl, rfl, rfl, hm, hO2, hB2, hoL2, ⟨hP.out.1, rfl, hold⟩, htop, hBp, hBq, hbk2, Below.refl _ _⟩
      case round =>
        clear hO2 hB2 hoL2 hold htop hbk2 hBq hBp
        obtain ⟨k, oK, A4, c4, pk, B4, m4, d4, ys4, hk, rfl, rfl, rfl, hm4, hO4, hB4, hL4, hPk, htop, hBp, hBq, hbk4, hb4⟩ := hrel
        obtain ⟨wi, rfl⟩ : ∃ wi : World, wi = wr := ⟨_, rfl⟩
        have hlo4 := hbk4.lt
        by_cases hkl2 : k < ml
        · obtain ⟨gL, r2, d2, rfl, hkn, hc2, h02, h12, hlL, hlr2, hrow2, hqk⟩ := hL4.arc HQ.out hkl2
          have hoK : oK.length ≤ 49 := by
            rw [hPk.out.2.1]
            exact (hP.out.2.1.add HNx.out k (by have := HQl.out; have := HM.out; omega)).len h7
          have HPR := Lib.hid (prAt_eq hkn)
          obtain ⟨p, hp⟩ : ∃ p, p = nx[k] := ⟨_, rfl⟩
          rw [← hp] at h02 h12 hrow2 hqk HPR
          clear hp
          obtain ⟨x, y⟩ := p
          simp only at h02 h12 hrow2 hqk
          obtain ⟨z, hz⟩ : ∃ z, fndZ oK (x, y) = z := ⟨_, rfl⟩
          have HZ := Lib.hid hz
          have hzd := fndZ_neg oK (x, y)
          rw [hz] at hzd
          clear hz
          go_wp2_with fail
          refine (indexOf_is hO4 hPk.out.1 (by omega) hrow2.ri HZ.out).mono ?_
          rintro e w3 ⟨rfl, hU3⟩
          by_cases hm : (x, y) ∈ oK
          · rw [decide_eq_true hm] at hzd
            have hz0 : ¬ z < 0 := of_decide_eq_false hzd
            have HA := Lib.hid (show oK = addK out nx (k + 1) by
              rw [hPk.out.2.1, addK_in]
              rw [← hPk.out.2.1, HPR.out]; exact hm)
            clear hm hzd
            go_wp2
            go_roundw
            case rel => exact ⟨k + 1, oK, A4, c4, pk, B4, m4, d4, ys4, by omega, by go_num, rfl, rfl, hm4, hO4.up hU3, hB4.up hU3, hL4.up hU3, ⟨hPk.out.1, HA.out, fun q hq => (hPk.out.2.2 q hq).imp id fun h => List.take_subset_take_left qs (Nat.le_succ k) h⟩, htop, hBp, hBq, hbk4.up hU3, hb4.trans (hU3.mono (by omega))⟩
            case measure => simp [intOf]; omega
          · rw [decide_eq_false hm] at hzd
            have hz0 : z < 0 := of_decide_eq_true hzd
            have HA := Lib.hid (show oK ++ [(x, y)] = addK out nx (k + 1) by
              rw [addK_new (by rw [← hPk.out.2.1, HPR.out]; exact hm), ← hPk.out.2.1, HPR.out])
            have HMp := Lib.hid (show List.map Prod.snd (pk ++ [(((some (⟨r2, 0, none⟩ : Addr), d2), [(x : Int), (y : Int)]) : RowP)]) = (oK ++ [(x, y)]).map row2 by rw [List.map_append, hPk.out.1]; simp [row2])
            clear hm hzd
            have hO5 := (hO4.up hU3).alloc (.cells #[.slice (some ⟨r2, 0, none⟩) 2 d2] 22)
            have hL5 := (hL4.up hU3).alloc (.cells #[.slice (some ⟨r2, 0, none⟩) 2 d2] 22)
            have hB5 := (hB4.up hU3).alloc (.cells #[.slice (some ⟨r2, 0, none⟩) 2 d2] 22)
            have hbk5 := (hbk4.up hU3).alloc (.cells #[.slice (some ⟨r2, 0, none⟩) 2 d2] 22)
            have hl3 := hU3.size
            have hb5 := (hb4.trans (hU3.mono (by omega) : Below (w.heap.size + 1) wi w3)).alloc (by omega) (.cells #[.slice (some ⟨r2, 0, none⟩) 2 d2] 22)
            have hrow5 := (show OwnI w3 (w.heap.size + 1) (some ⟨r2, 0, none⟩) 2 d2 [(x : Int), (y : Int)] from (hrow2.up hU3).more (by omega)).alloc (.cells #[.slice (some ⟨r2, 0, none⟩) 2 d2] 22)
            have hap := shared_apart hL5 hPk.out.2.2 hqk rfl
            have hcell := cell_lit (w := w3) (g := w3.heap.size) (e := 22) (y := .slice (some ⟨r2, 0, none⟩) 2 d2) rfl
            have hl5 := hbk5.lt
            have hHqk := Lib.hid (List.mem_of_getElem? hqk)
            obtain ⟨w5, hw5⟩ : ∃ w5, w5 = w3.alloc (.cells #[.slice (some ⟨r2, 0, none⟩) 2 d2] 22) := ⟨_, rfl⟩
            rw [← hw5] at hO5 hL5 hB5 hbk5 hb5 hrow5 hcell hl5
            have HW5 := Lib.hid hw5
            clear hc2 h02 h12 hw5
            go_wp2_with (at_builtin; first | (rw [← HW5.out]; refine wpList_pushF rfl (.tmp 47) (.tmp 49) rfl ((some ⟨r2, 0, none⟩, d2), [(x : Int), (y : Int)]) rfl hO5 ⟨w3.heap.size, 0, none⟩ rfl hcell hrow5 hap (by omega) (by omega) ?_; intro A7 c7 w7 hO7 hg7 hb7 hF7; clear hcell; have hL7 := hL5.kept_top hO5.top hg7 htop; have hB7 : OwnI w7 (w.heap.size + 1) B4 m4 d4 ys4 := hB5.kept hg7 (hB5.ne_top hO5.top); have hl7 := hb7.size) | (refine wpList_pushI rfl (.tmp 51) (.tmp 53) rfl (i : Int) rfl (hB7.alloc _) ⟨w7.heap.size, 0, none⟩ rfl (cell_lit rfl) (by omega) (by simp; omega) ?_; intro B9 d9 w9 hB9 hg9 hb9 hF9))
            have hBq7 : ∀ q ∈ pk ++ [(((some (⟨r2, 0, none⟩ : Addr), d2), [(x : Int), (y : Int)]) : RowP)], ∀ j, (rowV q).ownBlock = some j → (Value.slice B4 m4 d4).ownBlock ≠ some j := fun q hq j e => by
              rcases List.mem_append.1 hq with hq | hq
              · exact hBp q hq j e
              · obtain rfl : q = _ := List.mem_singleton.1 hq
                exact hBq _ hHqk.out j e
            have hO9 := (hO7.alloc (.cells #[.int .i64 (i : Int)] 3)).kept_int (hB7.alloc _) hg9 hBq7
            have hL9 := (hL7.alloc (.cells #[.int .i64 (i : Int)] 3)).kept_int (hB7.alloc _) hg9 hBq
            have hbk9 := ((hbk5.below hb7 (by omega)).alloc (.cells #[.int .i64 (i : Int)] 3)).below hb9 (by omega)
            have hb10 := ((hb5.trans hb7).alloc (by omega) (.cells #[.int .i64 (i : Int)] 3)).trans hb9
            go_roundw
            case rel =>
              refine ⟨k + 1, oK ++ [(x, y)], A7, c7, pk ++ [((some ⟨r2, 0, none⟩, d2), [(x : Int), (y : Int)])], B9, m4 + 1, d9, ys4 ++ [(i : Int)], by omega, by go_num, by rw [snoc_lenP], rfl, by rw [snoc_lenP]; omega, by rw [snoc_lenP]; exact hO9, hB9, hL9, ⟨HMp.out, HA.out, fun q hq => ?_⟩, fun j e => ?_, fun q hq j e e2 => ?_, fun q hq j e e2 => ?_, hbk9, hb10⟩
              · rcases List.mem_append.1 hq with hq | hq
                · exact (hPk.out.2.2 q hq).imp id fun h => List.take_subset_take_left qs (Nat.le_succ k) h
                · obtain rfl : q = _ := List.mem_singleton.1 hq
                  refine .inr (List.mem_of_getElem? (i := k) ?_)
                  rw [List.getElem?_take_of_lt (Nat.lt_succ_self k)]
                  exact hqk
              · rw [snoc_lenP] at e
                rcases hF7 j e with e | e
                · exact htop j e
                · intro e2
                  have := (hL5.block j e2).2
                  omega
              · rcases hF9 j e2 with e2 | e2
                · exact hBq7 q hq j e e2
                · have := ((hO7.rows q hq).block j e).2
                  rw [World.size_alloc] at e2
                  omega
              · rcases hF9 j e2 with e2 | e2
                · exact hBq q hq j e e2
                · have := ((hL7.rows q hq).block j e).2
                  rw [World.size_alloc] at e2
                  omega
            case measure => simp [intOf]; omega
        · obtain rfl : k = ml := by omega
          have HG := Lib.hid (show Good n Q oK by
            rw [hPk.out.2.1]
            exact hP.out.2.1.add HNx.out k (by have := HQl.out; have := HM.out; omega))
          have HF2 := Lib.hid (show frcR Q n f' oK (i + 1) = R by
            rw [hPk.out.2.1, show k = nx.length by have := HQl.out; have := HM.out; omega]; exact HSt.out)
          go_wp2
          go_roundw
          case rel => exact ⟨i + 1, f', oK, A4, c4, pk, B4, m4, d4, ys4, by omega, by go_num, rfl, rfl, hm4, hO4, hB4, hBp, ⟨hPk.out.1, HG.out, HF2.out⟩, hbk4, hb2.trans hb4⟩
          case measure => simp [intOf]; omega
    · have HE := Lib.hid (show ps.map Prod.snd = R.map row2 by rw [hP.out.1, ← hP.out.2.2, frcR_end hit])
      have HPl := Lib.hid (show ps.length = out.length by have := congrArg List.length hP.out.1; simpa using this)
      go_wp2
      go_ret2
      refine ⟨A3, c3, ps, .slice B m d, HE.out, ?_, ?_, hUw⟩
      · rw [HPl.out]; rfl
      · rw [HPl.out]; exact hO.more (by omega)
theorem implHasEdge_is {N : Int} {A : Option Addr} {n c : Nat} {X : List Int} {a b : Int} {w : World} {f : Bool} (hX : RI w A n X) (hn : n ≤ 9223372036854775807) (hf : hasEdge N X a b = f) :
    Calls Try.prog 61 #[.agg #[.int .i64 N, .slice A n c], .int .i64 a, .int .i64 b] w fun e w' => e = .returned (.bool f) ∧ Below w.heap.size w w' := by
  subst hf; exact implHasEdge_any N A n c X a b w hX hn
theorem frcR_good {Q : List Nat} {n : Nat} : ∀ (f : Nat) (out : List (Nat × Nat)) (i : Nat), Good n Q out → Good n Q (frcR Q n f out i)
  | 0, _, _, h => h
  | f + 1, out, i, h => by
    rw [frcR]
    split
    · exact frcR_good f _ _ (h.add nxt_lt _ (Nat.le_refl _))
    · exact h
theorem frcOf_len (N : Int) (X : List Int) (a b : Int) : (frcOf N X a b).length ≤ 49 := by
  obtain ⟨f, hf⟩ : ∃ f, f = hasEdge N X a b := ⟨_, rfl⟩
  cases f
  · rw [frcOf_no hf.symm]; simp
  · rcases hasEdge_cases N X a b with he | ⟨k, i0, j0, Q, rfl, rfl, rfl, rfl, h, hi0, hj0⟩
    · rw [he] at hf; cases hf
    rw [frcOf_ok hf.symm]
    exact (frcR_good 50 [(i0, j0)] 0 ⟨by simp, fun p hp => by
      obtain rfl : p = (i0, j0) := by simpa using hp
      exact ⟨hi0, hj0⟩⟩).len h.le
set_option maxHeartbeats 1000000 in
theorem implForcedArcs_any (N : Int) (A : Option Addr) (n c : Nat) (X : List Int) (a b : Int) (w : World) (hX : RI w A n X) (hn : n ≤ 9223372036854775807) :
    Calls Try.prog 31 #[.agg #[.int .i64 N, .slice A n c], .int .i64 a, .int .i64 b] w (GivesS ((frcOf N X a b).map row2) w) := by
  have hbk := Blk.new w 27 #[.int .i64 N, .slice A n c]
  have hU0 : Up w (w.alloc (.cells #[.int .i64 N, .slice A n c] 27)) := by go_grown
  obtain ⟨f, hf⟩ : ∃ f, f = hasEdge N X a b := ⟨_, rfl⟩
  have HF := Lib.hid hf.symm
  clear hf
  cases f
  · rw [frcOf_no HF.out]
    go_enter Try.func31, Try.ntmps31
    go_wp2_with fail
    refine (implHasEdge_is (hX.up hU0) hn HF.out).mono ?_
    rintro e w1 ⟨rfl, hb1⟩
    have hU1 := Up.then_ hU0 hb1
    go_wp2
    go_ret
    exact ⟨none, 0, [], rfl, rfl, OwnS.nil_ _ _, hU1⟩
  · rcases hasEdge_cases N X a b with he | ⟨k, i0, j0, Q, rfl, rfl, rfl, rfl, h, hi0, hj0⟩
    · rw [HF.out] at he; cases he
    obtain rfl : n = k := by rw [← hX.1, ints_len, h.len]
    rw [frcOf_ok HF.out]
    obtain ⟨R, hR⟩ : ∃ R, R = frcR Q n 50 [(i0, j0)] 0 := ⟨_, rfl⟩
    have HR := Lib.hid hR
    rw [← hR]
    clear hR
    go_enter Try.func31, Try.ntmps31
    go_wp2_with fail
    refine (implHasEdge_is (hX.up hU0) hn HF.out).mono ?_
    rintro e w1 ⟨rfl, hb1⟩
    have hU1 := Up.then_ hU0 hb1
    have hbk1 := (hbk.up hb1).two
    go_wp2_with fail
    refine (forced_any A n c i0 j0 Q w1 (hX.up hU1) h hi0 hj0).mono ?_
    rintro e w2 ⟨A2, c2, ps, v, hps, rfl, hO, hb2⟩
    have HP := Lib.hid (hps.trans (by rw [← HR.out]))
    clear hps
    go_wp2
    go_ret
    exact ⟨A2, c2, ps, HP.out, rfl, hO.more hU1.size, Up.then_ hU1 hb2⟩
end Go.Proofs.Ytlcmfangecbdgaa
