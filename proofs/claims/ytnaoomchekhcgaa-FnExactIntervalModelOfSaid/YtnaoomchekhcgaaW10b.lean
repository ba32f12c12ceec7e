/- Walks of chapter 10: the reference's model of an order of sets. -/
import Derived.Test.YtnaoomchekhcgaaW10
namespace Go.Proofs.Ytnaoomchekhcgaa
open Go.RowKit
theorem noSet_iff {n : Nat} {x : Int} : noSet n x = false ↔ 0 ≤ x ∧ x < (p2 n : Int) := by
  rw [noSet, Bool.not_eq_false', Bool.and_eq_true, decide_eq_true_eq, decide_eq_true_eq]; rfl
/-- append onto the first | the second of two own rows, in text order. -/
theorem wpListA_int {ops : Array Oper} {rest : List Oper} {o : Oper} {a : Act} {w : World} {Q : Exit → Act → World → Prop} (hgd : o.guard = none) (s x : Operand)
    (ho : o.op = .call { callee := .builtin .append, args := #[s, x], argTypes := #[22, 22] }) {W : World} {ra rb : Option Nat} {base : Nat} {e2 : TypeId} {A B : Option Addr} {n c m d : Nat} {xs ys : List Value} (y : Int)
    (hs : a.eval s = .slice A n c) (h : Two W ra rb base 3 e2 A n c xs B m d ys w) (ad : Addr) (hx : a.eval x = .slice (some ad) 1 1) (hc : w.cell? ad = some (.int .i64 y)) (hn : n ≤ 1048576) (hbase : base ≤ W.heap.size)
    (hK : ∀ A' c' w', Two W ra rb base 3 e2 A' (n + 1) c' (xs ++ [.int .i64 y]) B m d ys w' → w.grownBy w' (Value.slice A n c).ownBlock → wpList Try.prog ops Q rest (a.put o.dst (.slice A' (n + 1) c')) w') : wpList Try.prog ops Q (o :: rest) a w :=
  wpList_plain hgd fun K hKK => by
    have hw : Region.wanted o (yielded ops a.tmps) = true := by simp [Region.wanted, hgd]
    have := stepA_int (ops := ops) (K := K) (Q := Q) (E := False) hgd s x ho y hs h ad hx hc hn hbase fun A' c' w' h1 h2 => hKK _ _ (hK A' c' w' h1 h2)
    rwa [if_pos hw] at this
theorem wpListB_int {ops : Array Oper} {rest : List Oper} {o : Oper} {a : Act} {w : World} {Q : Exit → Act → World → Prop} (hgd : o.guard = none) (s x : Operand)
    (ho : o.op = .call { callee := .builtin .append, args := #[s, x], argTypes := #[22, 22] }) {W : World} {ra rb : Option Nat} {base : Nat} {e1 : TypeId} {A B : Option Addr} {n c m d : Nat} {xs ys : List Value} (y : Int)
    (hs : a.eval s = .slice B m d) (h : Two W ra rb base e1 3 A n c xs B m d ys w) (ad : Addr) (hx : a.eval x = .slice (some ad) 1 1) (hc : w.cell? ad = some (.int .i64 y)) (hn : m ≤ 1048576) (hbase : base ≤ W.heap.size)
    (hK : ∀ B' d' w', Two W ra rb base e1 3 A n c xs B' (m + 1) d' (ys ++ [.int .i64 y]) w' → w.grownBy w' (Value.slice B m d).ownBlock → wpList Try.prog ops Q rest (a.put o.dst (.slice B' (m + 1) d')) w') : wpList Try.prog ops Q (o :: rest) a w :=
  wpList_plain hgd fun K hKK => by
    have hw : Region.wanted o (yielded ops a.tmps) = true := by simp [Region.wanted, hgd]
    have := stepB_int (ops := ops) (K := K) (Q := Q) (E := False) hgd s x ho y hs h ad hx hc hn hbase fun A' c' w' h1 h2 => hKK _ _ (hK A' c' w' h1 h2)
    rwa [if_pos hw] at this
set_option maxRecDepth 100000 in
set_option maxHeartbeats 4000000 in
theorem specModelOfOrder_any (A : Option Addr) (m c : Nat) (l : List Int) (N : Int) (w : World) (hL : RI w A m l) (hm : m ≤ 1048576) :
    Calls Try.prog 56 #[.slice A m c, .int .i64 N] w (GivesTB (moL l N) (moR l N) (hasMo l N) w) := by
  have HL := Lib.hid hL.1
  have hbr := Blk.new w 44 #[.slice none 0 0, .slice none 0 0]
  have hU0 : Up w (w.alloc (.cells #[.slice none 0 0, .slice none 0 0] 44)) := by go_grown
  by_cases hN : 1 ≤ N ∧ N ≤ 7
  rotate_left
  · have HB := Lib.hid (hasMo_arg (moArg_num (l := l) hN))
    have HR := Lib.hid (mo_no HB.out)
    rw [HR.out.1, HR.out.2, HB.out]
    go_enter Try.func56, Try.ntmps56
    have f0 := hbr.frozen 0
    have f1 := hbr.frozen 1
    have hyb := hbr.two
    go_wp2_with (go_at_call 82; refine (l1In_no _ _ _ _ hN).mono ?_; rintro e w' ⟨rfl, rfl⟩)
    refine bodyPost_ret (v := .tuple #[.agg #[.slice none 0 0, .slice none 0 0], .bool false]) ?_ rfl ?_
    · simp [results, Try.results56, go_sem]
    exact givesTB_none hU0
  obtain ⟨n, rfl⟩ : ∃ n : Nat, N = n := ⟨N.toNat, by omega⟩
  by_cases hm20 : 1 ≤ (l.length : Int) ∧ (l.length : Int) ≤ 20
  rotate_left
  · have HB := Lib.hid (hasMo_arg (moArg_len (n := (n : Int)) hm20))
    have HR := Lib.hid (mo_no HB.out)
    rw [HR.out.1, HR.out.2, HB.out]
    rw [HL.out] at hm20
    go_enter Try.func56, Try.ntmps56
    have f0 := hbr.frozen 0
    have f1 := hbr.frozen 1
    have hyb := hbr.two
    go_wp2_with (first | (go_at_call_of 82 (Value.int .i64 (n : Int)); refine (l1In_yes _ _ _ _ hN).mono ?_; rintro e w' ⟨rfl, rfl⟩) | (go_at_call_of 82 (Value.int .i64 (m : Int)); refine (l1In_no _ _ _ _ hm20).mono ?_; rintro e w' ⟨rfl, rfl⟩))
    refine bodyPost_ret (v := .tuple #[.agg #[.slice none 0 0, .slice none 0 0], .bool false]) ?_ rfl ?_
    · simp [results, Try.results56, go_sem]
    exact givesTB_none hU0
  have h1 : 1 ≤ n := by omega
  have h7 : n ≤ 7 := by omega
  have hm1 : 1 ≤ m := by rw [HL.out] at hm20; omega
  have hml : m ≤ 20 := by rw [HL.out] at hm20; omega
  have hany := moArg_any (l := l) h1 h7 (by omega) (by omega)
  rw [HL.out] at hm20
  have Hno := Lib.hid (show ∀ j, j < m → noSet n (l.getD j 0) = true → hasMo l n = false from fun j hj h => hasMo_arg (by rw [hany, noSet_out (by rw [HL.out]; exact hj) h]; rfl))
  have Hyes := Lib.hid (show (∀ j, j < m → noSet n (l.getD j 0) = false) → moArg l n = true from fun h => by
    rw [hany, Bool.not_eq_true', ← Bool.not_eq_true, List.any_eq_true]
    rintro ⟨x, hx, e⟩
    obtain ⟨j, hj, rfl⟩ := List.mem_iff_getElem.1 hx
    have := h j (by rw [← HL.out]; exact hj)
    simp [List.getD, List.getElem?_eq_getElem hj, e] at this)
  have hsh := shl_p2 (k := n) (by omega)
  have hpp := p2_le h7
  clear hany
  go_enter Try.func56, Try.ntmps56
  have hyb := hbr.two
  go_wp2_with (first | (go_at_call_of 82 (Value.int .i64 (n : Int)); refine (l1In_yes _ _ _ _ hN).mono ?_; rintro e w' ⟨rfl, rfl⟩) | (go_at_call_of 82 (Value.int .i64 (m : Int)); refine (l1In_yes _ _ _ _ hm20).mono ?_; rintro e w' ⟨rfl, rfl⟩))
  obtain ⟨W1, hW1⟩ : ∃ W1, W1 = (w.alloc (.cells #[.slice none 0 0, .slice none 0 0] 44)).alloc (.cells #[.slice none 0 0, .slice none 0 0] 44) := ⟨_, rfl⟩
  have hbm : Blk W1 (w.heap.size + 1) 44 #[.slice none 0 0, .slice none 0 0] := by rw [hW1]; exact Blk.new_at (by simp)
  have hbr1 : Blk W1 w.heap.size 44 #[.slice none 0 0, .slice none 0 0] := by rw [hW1]; exact hbr.alloc _
  have hUW : Up w W1 := by rw [hW1]; go_grown
  rw [← hW1]
  clear hW1 hyb hbr hU0
  have hL1 := hL.up hUW
  go_loopw [7] (fun s wr => ∃ k : Nat, k ≤ m ∧ s = .int .i64 k ∧ (∃ q, wr = W1.drewN q) ∧ Hid (∀ j, j < k → noSet n (l.getD j 0) = false)) (fun s _ => m - (intOf s).toNat)
  case atStart => exact ⟨0, Nat.zero_le _, rfl, ⟨0, rfl⟩, fun j hj => absurd hj (by omega)⟩
  case round =>
    obtain ⟨k, hk, rfl, ⟨q, rfl⟩, hall⟩ := hrel
    by_cases hkm : k < m
    · obtain ⟨a, rfl, _, hcl⟩ := hL1.at_ hkm
      obtain ⟨z, hz⟩ : ∃ z, z = l.getD k 0 := ⟨_, rfl⟩
      have Hz := Lib.hid hz
      rw [← hz] at hcl
      clear hz
      by_cases hin : 0 ≤ z ∧ z < (p2 n : Int)
      · have HN := Lib.hid (noSet_iff.2 hin)
        have d1 : decide (z < 0) = false := decide_eq_false (by omega)
        have d2 : decide ((p2 n : Int) ≤ z) = false := decide_eq_false (by omega)
        go_wp2_with fail
        go_quiet (fail)
        go_wp2
        go_roundw
        case rel => exact ⟨k + 1, by omega, by go_num, ⟨_, rfl⟩, fun j hj => by
          rcases Nat.lt_succ_iff_lt_or_eq.1 hj with h' | rfl
          · exact hall.out j h'
          · rw [← Hz.out]; exact HN.out⟩
        case measure => simp [intOf]; omega
      · have HO := Lib.hid (Hno.out k hkm (by
          rw [← Hz.out]
          rcases Bool.eq_false_or_eq_true (noSet n z) with e | e
          · exact e
          · exact absurd (noSet_iff.1 e) hin))
        have HG := Lib.hid (mo_no HO.out)
        rw [HG.out.1, HG.out.2, HO.out]
        have f0 := fun k => (hbr1.drewN k).frozen 0
        have f1 := fun k => (hbr1.drewN k).frozen 1
        have hyr := fun k => (hbr1.drewN k).two
        have hor : z < 0 ∨ 0 ≤ z ∧ (p2 n : Int) ≤ z := by omega
        rcases hor with hneg | ⟨hpos, hbig⟩
        · have d1 : decide (z < 0) = true := decide_eq_true hneg
          clear hneg hin
          go_wp2_with fail
          go_quiet (fail)
          have hfin := ((hbr1.drewN (q + nq)).set_ 0 (.slice none 0 0)).set_ 1 (.slice none 0 0) |>.two
          have hbf := ((below_drewN hUW (q + nq)).setCell (p := ⟨w.heap.size, 0, none⟩) (by simp) (.slice none 0 0)).setCell (p := ⟨w.heap.size, 1, none⟩) (by simp) (.slice none 0 0)
          go_wp2_with fail
          generalize ((W1.drewN (q + nq)).setCell ⟨w.heap.size, 0, none⟩ (.slice none 0 0)).setCell ⟨w.heap.size, 1, none⟩ (.slice none 0 0) = Wf at hfin hbf ⊢
          refine bodyPost_ret (v := .tuple #[.agg #[.slice none 0 0, .slice none 0 0], .bool false]) ?_ rfl ?_
          · simp [results, Try.results56, go_sem, hfin]
          exact givesTB_none hbf
        · have d1 : decide (z < 0) = false := decide_eq_false (by omega)
          have d2 : decide ((p2 n : Int) ≤ z) = true := decide_eq_true hbig
          clear hpos hbig hin
          go_wp2_with fail
          go_quiet (fail)
          have hfin := ((hbr1.drewN (q + nq)).set_ 0 (.slice none 0 0)).set_ 1 (.slice none 0 0) |>.two
          have hbf := ((below_drewN hUW (q + nq)).setCell (p := ⟨w.heap.size, 0, none⟩) (by simp) (.slice none 0 0)).setCell (p := ⟨w.heap.size, 1, none⟩) (by simp) (.slice none 0 0)
          go_wp2_with fail
          generalize ((W1.drewN (q + nq)).setCell ⟨w.heap.size, 0, none⟩ (.slice none 0 0)).setCell ⟨w.heap.size, 1, none⟩ (.slice none 0 0) = Wf at hfin hbf ⊢
          refine bodyPost_ret (v := .tuple #[.agg #[.slice none 0 0, .slice none 0 0], .bool false]) ?_ rfl ?_
          · simp [results, Try.results56, go_sem, hfin]
          exact givesTB_none hbf
    · obtain rfl : k = m := by omega
      have harg := Hyes.out hall.out
      obtain ⟨n', o, e1, rfl, _, _, _, _, hlt⟩ := moArg_spec harg
      obtain rfl : n = n' := by omega
      have hol : o.length = k := by rw [← HL.out, ints_len]
      have Hout := Lib.hid fun v (hv : v < n) (h : fstB o v o.length < 0) => hasMo_out harg hv h
      have Hyes2 := Lib.hid fun h => mo_ok (o := o) harg h
      have Hcs := Lib.hid fun v => fstB_range o v
      have Hlt := Lib.hid hlt
      have Hol := Lib.hid hol
      have hbm1 := hbm.drewN q
      have hbr2 := hbr1.drewN q
      have hUq := below_drewN hUW q
      obtain ⟨W2, hW2⟩ : ∃ W2, W2 = W1.drewN q := ⟨_, rfl⟩
      rw [← hW2] at hbm1 hbr2 hUq ⊢
      have hsz3 : w.heap.size + 1 < W2.heap.size := hbm1.lt
      clear hbm hbr1 hW2 harg hall Hno Hyes hlt hol hL1 hUW
      go_wp2_with fail
      go_loopw [8] (fun s wr => ∃ (v : Nat) (A1 B1 : Option Addr) (c1 d1 : Nat), v ≤ n ∧ s = .int .i64 v ∧ OwnI wr (w.heap.size + 1) A1 v c1 (moF o v) ∧ OwnI wr (w.heap.size + 1) B1 v d1 (moG o v) ∧ (∀ j, (Value.slice A1 v c1).ownBlock = some j → (Value.slice B1 v d1).ownBlock ≠ some j) ∧ Blk wr (w.heap.size + 1) 44 #[.slice A1 v c1, .slice B1 v d1] ∧ Below (w.heap.size + 1) W2 wr ∧ Hid (∀ u, u < v → 0 ≤ fstB o u o.length)) (fun s _ => n - (intOf s).toNat)
      case atStart => exact ⟨0, none, none, 0, 0, Nat.zero_le _, rfl, OwnI.nil_ _ _, OwnI.nil_ _ _, (fun j h => by cases h), hbm1, Below.refl _ _, fun v hv => absurd hv (by omega)⟩
      case round =>
        clear hbm1
        obtain ⟨v, A1, B1, c1, d1, hv, rfl, hownA, hownB, hne, hbm, hb, hpos⟩ := hrel
        obtain ⟨wo, rfl⟩ : ∃ wo : World, wo = wr := ⟨_, rfl⟩
        have hUo : Up w wo := hUq.trans (hb.mono (by omega))
        by_cases hvn : v < n
        · have hLo := hL.up hUo
          go_wp2_with fail
          go_loop [9, 10, 11] (fun x y s => ∃ i : Nat, i ≤ k ∧ s = .int .i64 i ∧ x = .int .i64 (fstB o v i) ∧ y = .int .i64 (lstB o v i)) (fun _ _ s => k - (intOf s).toNat)
          case atStart => exact ⟨0, Nat.zero_le _, rfl, rfl, rfl⟩
          case round =>
            obtain ⟨i, hi, rfl, rfl, rfl⟩ := hrel
            by_cases hit : i < k
            · obtain ⟨a, rfl, hcl⟩ := hLo.nb_at hit
              have hF := Lib.hid (show fstB o v (i + 1) = if fstB o v i < 0 ∧ (nb o i).testBit v = true then (i : Int) else fstB o v i from rfl)
              have hG := Lib.hid (show lstB o v (i + 1) = if (nb o i).testBit v then (i : Int) else lstB o v i from rfl)
              have hxl : nb o i < 128 := by have := Hlt.out i; have := pow_le7 h7; omega
              have hbit := bit_one (nb o i) v (by omega)
              obtain ⟨x, hx⟩ : ∃ x, x = nb o i := ⟨_, rfl⟩
              rw [← hx] at hcl hF hG hbit
              clear hx
              obtain ⟨p, hp⟩ : ∃ p, p = fstB o v i := ⟨_, rfl⟩
              rw [← hp] at hF ⊢
              clear hp
              obtain ⟨r, hr⟩ : ∃ r, r = lstB o v i := ⟨_, rfl⟩
              rw [← hr] at hG ⊢
              clear hr
              rcases Bool.eq_false_or_eq_true (x.testBit v) with e1 | e1
              · rw [e1] at hbit
                rw [e1, if_pos rfl] at hG
                by_cases hp0 : p < 0
                · rw [if_pos ⟨hp0, e1⟩] at hF
                  clear e1
                  go_wp2
                  go_round
                  case rel => exact ⟨i + 1, by omega, by go_num, by rw [hF.out], by rw [hG.out]⟩
                  case measure => simp [intOf]; omega
                · rw [if_neg fun h => hp0 h.1] at hF
                  clear e1
                  go_wp2
                  go_round
                  case rel => exact ⟨i + 1, by omega, by go_num, by rw [hF.out], by rw [hG.out]⟩
                  case measure => simp [intOf]; omega
              · rw [e1] at hbit
                rw [e1, if_neg Bool.false_ne_true] at hG
                rw [e1, if_neg fun h => Bool.false_ne_true h.2] at hF
                clear e1
                go_wp2
                go_round
                case rel => exact ⟨i + 1, by omega, by go_num, by rw [hF.out], by rw [hG.out]⟩
                case measure => simp [intOf]; omega
            · obtain rfl : i = k := by omega
              have hcs := Hcs.out v i
              by_cases hf0 : fstB o v i < 0
              · have HO := Lib.hid (Hout.out v hvn (by rw [Hol.out]; exact hf0))
                have HG := Lib.hid (mo_no HO.out)
                have hbr4 := hbr2.below hb (by omega)
                have hyr := hbr4.two
                have f0 := hbr4.frozen 0
                have f1 := hbr4.frozen 1
                have hfin := ((hbr4.set_ 0 (.slice none 0 0)).set_ 1 (.slice none 0 0)).two
                have hbf := (hUo.setCell (p := ⟨w.heap.size, 0, none⟩) (by simp) (.slice none 0 0)).setCell (p := ⟨w.heap.size, 1, none⟩) (by simp) (.slice none 0 0)
                obtain ⟨p, hp⟩ : ∃ p, p = fstB o v i := ⟨_, rfl⟩
                rw [← hp] at hf0 ⊢
                clear hp hcs
                go_wp2_with fail
                generalize (wo.setCell ⟨w.heap.size, 0, none⟩ (.slice none 0 0)).setCell ⟨w.heap.size, 1, none⟩ (.slice none 0 0) = Wf at hfin hbf ⊢
                refine bodyPost_ret (v := .tuple #[.agg #[.slice none 0 0, .slice none 0 0], .bool false]) ?_ rfl ?_
                · simp [results, Try.results56, go_sem, hfin]
                rw [HG.out.1, HG.out.2, HO.out]
                exact givesTB_none hbf
              · have eF := Lib.hid (show List.map (Value.int .i64) (moF o v) ++ [.int .i64 (fstB o v i)] = List.map (Value.int .i64) (moF o (v + 1)) by rw [moF_succ, List.map_append, Hol.out]; rfl)
                have eG := Lib.hid (show List.map (Value.int .i64) (moG o v) ++ [.int .i64 (lstB o v i)] = List.map (Value.int .i64) (moG o (v + 1)) by rw [moG_succ, List.map_append, Hol.out]; rfl)
                have hpos2 := Lib.hid (show ∀ u, u < v + 1 → 0 ≤ fstB o u o.length from fun u hu => by
                  rcases Nat.lt_succ_iff_lt_or_eq.1 hu with h' | rfl
                  · exact hpos.out u h'
                  · rw [Hol.out]; omega)
                obtain ⟨p, hp⟩ : ∃ p, p = fstB o v i := ⟨_, rfl⟩
                rw [← hp] at hf0 eF ⊢
                obtain ⟨r, hr⟩ : ∃ r, r = lstB o v i := ⟨_, rfl⟩
                rw [← hr] at eG ⊢
                clear hp hcs hr hpos
                have T0 := Two.start (W := wo) (base := w.heap.size + 1) hownA hownB hne
                have hym := hbm.two
                have hlm := hbm.lt
                have hna : some (w.heap.size + 1) ≠ (Value.slice A1 v c1).ownBlock := Ne.symm (own_blk_ne (e := 3) hownA hbm (by decide))
                have hnb : some (w.heap.size + 1) ≠ (Value.slice B1 v d1).ownBlock := Ne.symm (own_blk_ne (e := 3) hownB hbm (by decide))
                have hra := Lib.hid (show ∀ k', (Value.slice A1 v c1).ownBlock = some k' → w.heap.size + 1 ≤ k' from fun k' e => (World.ownsRow.lt hownA k' e).1)
                have hrb := Lib.hid (show ∀ k', (Value.slice B1 v d1).ownBlock = some k' → w.heap.size + 1 ≤ k' from fun k' e => (World.ownsRow.lt hownB k' e).1)
                have hcellA := (Blk.new wo 3 #[.int .i64 p]).one
                clear hownA hownB hne
                have hw1 := Lib.hid hb
                go_wp2_with (first
                  | (at_builtin; refine wpListA_int rfl (.tmp 71) (.tmp 73) rfl p rfl (T0.alloc _) ⟨wo.heap.size, 0, none⟩ rfl hcellA (by omega) (by omega) ?_; intro A7 c7 w7 T7 hg7; have hbm7 := T7.blk hbm hna hnb; have hy7 := hbm7.two; have f70 := hbm7.frozen 0; have f71 := hbm7.frozen 1; have hA7 : OwnI w7 (w.heap.size + 1) A7 (v + 1) c7 (moF o (v + 1)) := (by unfold OwnI; rw [← eF.out]; exact T7.a); have hB7 : OwnI w7 (w.heap.size + 1) B1 v d1 (moG o v) := T7.b; have hA8 := hA7.other_store (i := 0) hbm7 (by decide) (.slice A7 (v + 1) c7); have hB8 := hB7.other_store (i := 0) hbm7 (by decide) (.slice A7 (v + 1) c7); have hbm8 := hbm7.set_ 0 (.slice A7 (v + 1) c7); have T8 := Two.start (base := w.heap.size + 1) hA8 hB8 T7.ne; have hy8 := fun o => (hbm8.alloc o).two; have hy8' := hbm8.two; have hcellB := cell_lit (w := w7.setCell ⟨w.heap.size + 1, 0, none⟩ (.slice A7 (v + 1) c7)) (g := w7.heap.size) (e := 3) (y := .int .i64 r) (by simp); have hw8 := (T7.below hw1.out hra.out hrb.out (Nat.le_of_lt hlm)).setCell (p := ⟨w.heap.size + 1, 0, none⟩) (Nat.le_refl _) (.slice A7 (v + 1) c7); have hna8 : some (w.heap.size + 1) ≠ (Value.slice A7 (v + 1) c7).ownBlock := Ne.symm (own_blk_ne (e := 3) hA8 hbm8 (by decide)); have hnb8 : some (w.heap.size + 1) ≠ (Value.slice B1 v d1).ownBlock := Ne.symm (own_blk_ne (e := 3) hB8 hbm8 (by decide)); have hra8 := Lib.hid (show ∀ k', (Value.slice A7 (v + 1) c7).ownBlock = some k' → w.heap.size + 1 ≤ k' from fun k' e => (World.ownsRow.lt hA8 k' e).1); have hl8 := hbm8.lt; clear T0 hbm hcellA hym hna hnb hA7 hB7 hA8 hB8 T7 hbm7 hg7)
                  | (at_builtin; refine wpListB_int rfl (.tmp 77) (.tmp 79) rfl r rfl (T8.alloc _) ⟨w7.heap.size, 0, none⟩ rfl hcellB (by omega) (by omega) ?_; intro B8 d8 w9 T9 hg9; have hbm9 := T9.blk hbm8 hna8 hnb8; have hy9 := hbm9.two; have f91 := hbm9.frozen 1))
                have hw9 := (T9.below hw8 hra8.out hrb.out (by have := hl8; simp at this ⊢; omega)).setCell (p := ⟨w.heap.size + 1, 1, none⟩) (Nat.le_refl _) (.slice B8 (v + 1) d8)
                have hA9 : OwnI w9 (w.heap.size + 1) A7 (v + 1) c7 (moF o (v + 1)) := T9.a
                have hB9 : OwnI w9 (w.heap.size + 1) B8 (v + 1) d8 (moG o (v + 1)) := by unfold OwnI; rw [← eG.out]; exact T9.b
                have hn9 := T9.ne
                clear T9 T8
                go_roundw
                case rel => exact ⟨v + 1, A7, B8, c7, d8, by omega, by go_num, hA9.other_store (i := 1) hbm9 (by decide) _, hB9.other_store (i := 1) hbm9 (by decide) _, hn9, hbm9.set_ 1 _, hw9, hpos2⟩
                case measure => simp [intOf]; omega
        · obtain rfl : v = n := by omega
          have HG := Lib.hid (Hyes2.out (moAll_yes v hpos.out))
          have hbr4 := hbr2.below hb (by omega)
          have f0 := hbr4.frozen 0
          have f1 := hbr4.frozen 1
          have hyr := hbr4.two
          have hym := hbm.two
          have hlr := hbr4.lt
          have hfin := ((hbr4.set_ 0 (.slice A1 v c1)).set_ 1 (.slice B1 v d1)).two
          have hoA := (hownA.other_store (i := 0) hbr4 (by decide) (.slice A1 v c1)).other_store (i := 1) (hbr4.set_ 0 (.slice A1 v c1)) (by decide) (.slice B1 v d1)
          have hoB := (hownB.other_store (i := 0) hbr4 (by decide) (.slice A1 v c1)).other_store (i := 1) (hbr4.set_ 0 (.slice A1 v c1)) (by decide) (.slice B1 v d1)
          have hbf := (hUo.setCell (p := ⟨w.heap.size, 0, none⟩) (by simp) (.slice A1 v c1)).setCell (p := ⟨w.heap.size, 1, none⟩) (by simp) (.slice B1 v d1)
          go_wp2
          generalize (wo.setCell ⟨w.heap.size, 0, none⟩ (.slice A1 v c1)).setCell ⟨w.heap.size, 1, none⟩ (.slice B1 v d1) = Wf at hfin hoA hoB hbf ⊢
          refine bodyPost_ret (v := .tuple #[.agg #[.slice A1 v c1, .slice B1 v d1], .bool true]) ?_ rfl ?_
          · simp [results, Try.results56, go_sem, hfin]
          rw [HG.out.1, HG.out.2.1, HG.out.2.2]
          have eA := moF_len o v
          have eB := moG_len o v
          exact ⟨A1, c1, B1, d1, by rw [eA, eB], (hoA.cast eA.symm rfl).more (by omega), (hoB.cast eB.symm rfl).more (by omega), (fun j h1 h2 => hne j (by rw [eA] at h1; exact h1) (by rw [eB] at h2; exact h2)), hbf⟩
end Go.Proofs.Ytnaoomchekhcgaa
