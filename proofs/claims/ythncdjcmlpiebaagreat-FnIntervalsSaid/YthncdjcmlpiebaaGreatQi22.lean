/- Walks of chapter 10: the reference's model of an order of sets. Walks of chapter 10: IntervalModelOf. The model of an order of cliques: it is a model of the graph; such an order comes of an order by intervals. No program in sight. Umbrella orders: the band is the largest clique less one; the least unit model is a model of the graph; what stands against them. No program in sight. A law on a region that draws: its first n operations are still (they read, and call what leaves the world as it was), in whatever order; the others come behind them, in whatever order, and may change the world. -/
import Derived.Test.YthncdjcmlpiebaaGreatQi01
import Derived.Test.YthncdjcmlpiebaaGreatQi02
import Derived.Test.YthncdjcmlpiebaaGreatQi03
import Derived.Test.YthncdjcmlpiebaaGreatQi04
import Derived.Test.YthncdjcmlpiebaaGreatQi10
import Derived.Test.YthncdjcmlpiebaaGreatQi11
import Derived.Test.YthncdjcmlpiebaaGreatQi13
import Derived.Test.YthncdjcmlpiebaaGreatQi18
import Derived.Test.YthncdjcmlpiebaaGreatQi19
import Derived.Test.YthncdjcmlpiebaaGreatQi20
import Derived.Test.YthncdjcmlpiebaaGreatQi21
import Derived.Deep.LoopGhost
import Derived.Deep.RegionWith
import Derived.StillTail
import Derived.StillTailTactics
namespace Go.Proofs.YthncdjcmlpiebaaGreat
open Go.RowKit
set_option maxRecDepth 100000 in
theorem noSet_iff {n : Nat} {x : Int} : noSet n x = false ↔ 0 ≤ x ∧ x < (p2 n : Int) := by
  rw [noSet, Bool.not_eq_false', Bool.and_eq_true, decide_eq_true_eq, decide_eq_true_eq]; rfl
set_option maxRecDepth 100000 in
/-- append onto the first | the second of two own rows, in text order. -/
theorem wpListA_int {ops : Array Oper} {rest : List Oper} {o : Oper} {a : Act} {w : World} {Q : Exit → Act → World → Prop} (hgd : o.guard = none) (s x : Operand)
    (ho : o.op = .call { callee := .builtin .append, args := #[s, x], argTypes := #[24, 24] }) {W : World} {ra rb : Option Nat} {base : Nat} {e2 : TypeId} {A B : Option Addr} {n c m d : Nat} {xs ys : List Value} (y : Int)
    (hs : a.eval s = .slice A n c) (h : Two W ra rb base 3 e2 A n c xs B m d ys w) (ad : Addr) (hx : a.eval x = .slice (some ad) 1 1) (hc : w.cell? ad = some (.int .i64 y)) (hn : n ≤ 1048576) (hbase : base ≤ W.heap.size)
    (hK : ∀ A' c' w', Two W ra rb base 3 e2 A' (n + 1) c' (xs ++ [.int .i64 y]) B m d ys w' → w.grownBy w' (Value.slice A n c).ownBlock → wpList Tryz.prog ops Q rest (a.put o.dst (.slice A' (n + 1) c')) w') : wpList Tryz.prog ops Q (o :: rest) a w :=
  wpList_plain hgd fun K hKK => by
    have hw : Region.wanted o (yielded ops a.tmps) = true := by simp [Region.wanted, hgd]
    have := stepA_int (ops := ops) (K := K) (Q := Q) (E := False) hgd s x ho y hs h ad hx hc hn hbase fun A' c' w' h1 h2 => hKK _ _ (hK A' c' w' h1 h2)
    rwa [if_pos hw] at this
set_option maxRecDepth 100000 in
theorem wpListB_int {ops : Array Oper} {rest : List Oper} {o : Oper} {a : Act} {w : World} {Q : Exit → Act → World → Prop} (hgd : o.guard = none) (s x : Operand)
    (ho : o.op = .call { callee := .builtin .append, args := #[s, x], argTypes := #[24, 24] }) {W : World} {ra rb : Option Nat} {base : Nat} {e1 : TypeId} {A B : Option Addr} {n c m d : Nat} {xs ys : List Value} (y : Int)
    (hs : a.eval s = .slice B m d) (h : Two W ra rb base e1 3 A n c xs B m d ys w) (ad : Addr) (hx : a.eval x = .slice (some ad) 1 1) (hc : w.cell? ad = some (.int .i64 y)) (hn : m ≤ 1048576) (hbase : base ≤ W.heap.size)
    (hK : ∀ B' d' w', Two W ra rb base e1 3 A n c xs B' (m + 1) d' (ys ++ [.int .i64 y]) w' → w.grownBy w' (Value.slice B m d).ownBlock → wpList Tryz.prog ops Q rest (a.put o.dst (.slice B' (m + 1) d')) w') : wpList Tryz.prog ops Q (o :: rest) a w :=
  wpList_plain hgd fun K hKK => by
    have hw : Region.wanted o (yielded ops a.tmps) = true := by simp [Region.wanted, hgd]
    have := stepB_int (ops := ops) (K := K) (Q := Q) (E := False) hgd s x ho y hs h ad hx hc hn hbase fun A' c' w' h1 h2 => hKK _ _ (hK A' c' w' h1 h2)
    rwa [if_pos hw] at this
set_option maxRecDepth 100000 in
set_option maxHeartbeats 4000000 in
theorem specModelOfOrder_any (A : Option Addr) (m c : Nat) (l : List Int) (N : Int) (w : World) (hL : RI w A m l) (hm : m ≤ 1048576) :
    Calls Tryz.prog 52 #[.slice A m c, .int .i64 N] w (GivesTB (moL l N) (moR l N) (hasMo l N) w) := by
  have HL := Lib.hid hL.1
  have hbr := Blk.new w 31 #[.slice none 0 0, .slice none 0 0]
  have hU0 : Up w (w.alloc (.cells #[.slice none 0 0, .slice none 0 0] 31)) := by go_grown
  by_cases hN : 1 ≤ N ∧ N ≤ 7
  rotate_left
  · have HB := Lib.hid (hasMo_arg (moArg_num (l := l) hN))
    have HR := Lib.hid (mo_no HB.out)
    rw [HR.out.1, HR.out.2, HB.out]
    go_enter Tryz.func52, Tryz.ntmps52
    have f0 := hbr.frozen 0
    have f1 := hbr.frozen 1
    have hyb := hbr.two
    go_wp2_with (go_at_call 72; refine (l1In_no _ _ _ _ hN).mono ?_; rintro e w' ⟨rfl, rfl⟩)
    refine bodyPost_ret (v := .tuple #[.agg #[.slice none 0 0, .slice none 0 0], .bool false]) ?_ rfl ?_
    · simp [results, Tryz.results52, go_sem]
    exact givesTB_none hU0
  obtain ⟨n, rfl⟩ : ∃ n : Nat, N = n := ⟨N.toNat, by omega⟩
  by_cases hm20 : 1 ≤ (l.length : Int) ∧ (l.length : Int) ≤ 20
  rotate_left
  · have HB := Lib.hid (hasMo_arg (moArg_len (n := (n : Int)) hm20))
    have HR := Lib.hid (mo_no HB.out)
    rw [HR.out.1, HR.out.2, HB.out]
    rw [HL.out] at hm20
    go_enter Tryz.func52, Tryz.ntmps52
    have f0 := hbr.frozen 0
    have f1 := hbr.frozen 1
    have hyb := hbr.two
    go_wp2_with (first | (go_at_call_of 72 (Value.int .i64 (n : Int)); refine (l1In_yes _ _ _ _ hN).mono ?_; rintro e w' ⟨rfl, rfl⟩) | (go_at_call_of 72 (Value.int .i64 (m : Int)); refine (l1In_no _ _ _ _ hm20).mono ?_; rintro e w' ⟨rfl, rfl⟩))
    refine bodyPost_ret (v := .tuple #[.agg #[.slice none 0 0, .slice none 0 0], .bool false]) ?_ rfl ?_
    · simp [results, Tryz.results52, go_sem]
    exact givesTB_none hU0
  have h1 : 1 ≤ n := by omega
  have h7 : n ≤ 7 := by omega
  have hm1 : 1 ≤ m := by rw [HL.out] at hm20; omega
  have hml : m ≤ 20 := by rw [HL.out] at hm20; omega
  have hany := moArg_any (l := l) h1 h7 (by omega) (by omega)
  rw [HL.out] at hm20
  have Hno := Lib.hid (show ∀ j, j < m → noSet n (l.getD j 0) = true → hasMo l n = false from fun j hj h => hasMo_arg (by rw [hany, noSet_out (by rw [HL.out]; exact hj) h]; rfl))
  have Hyes := Lib.hid (show (∀ j, j < m → noSet n (l.getD j 0) = false) → moArg l n = true from fun h => by
    rw [hany, Bool.not_eq_true', ← Bool.not_eq_true, List.any_eq_true]
    rintro ⟨x, hx, e⟩
    obtain ⟨j, hj, rfl⟩ := List.mem_iff_getElem.1 hx
    have := h j (by rw [← HL.out]; exact hj)
    simp [List.getD, List.getElem?_eq_getElem hj, e] at this)
  have hsh := shl_p2 (k := n) (by omega)
  have hpp := p2_le h7
  clear hany
  go_enter Tryz.func52, Tryz.ntmps52
  have hyb := hbr.two
  go_wp2_with (first | (go_at_call_of 72 (Value.int .i64 (n : Int)); refine (l1In_yes _ _ _ _ hN).mono ?_; rintro e w' ⟨rfl, rfl⟩) | (go_at_call_of 72 (Value.int .i64 (m : Int)); refine (l1In_yes _ _ _ _ hm20).mono ?_; rintro e w' ⟨rfl, rfl⟩))
  obtain ⟨W1, hW1⟩ : ∃ W1, W1 = (w.alloc (.cells #[.slice none 0 0, .slice none 0 0] 31)).alloc (.cells #[.slice none 0 0, .slice none 0 0] 31) := ⟨_, rfl⟩
  have hbm : Blk W1 (w.heap.size + 1) 31 #[.slice none 0 0, .slice none 0 0] := by rw [hW1]; exact Blk.new_at (by simp)
  have hbr1 : Blk W1 w.heap.size 31 #[.slice none 0 0, .slice none 0 0] := by rw [hW1]; exact hbr.alloc _
  have hUW : Up w W1 := by rw [hW1]; go_grown
  rw [← hW1]
  clear hW1 hyb hbr hU0
  have hL1 := hL.up hUW
  go_loopw [7] (fun s wr => ∃ k : Nat, k ≤ m ∧ s = .int .i64 k ∧ (∃ q, wr = W1.drewN q) ∧ Hid (∀ j, j < k → noSet n (l.getD j 0) = false)) (fun s _ => m - (intOf s).toNat)
  case atStart => exact ⟨0, Nat.zero_le _, rfl, ⟨0, rfl⟩, fun j hj => absurd hj (by omega)⟩
  case round =>
    obtain ⟨k, hk, rfl, ⟨q, rfl⟩, hall⟩ := hrel
    by_cases hkm : k < m
    · obtain ⟨a, rfl, _, hcl⟩ := hL1.at_ hkm
      obtain ⟨z, hz⟩ : ∃ z, z = l.getD k 0 := ⟨_, rfl⟩
      have Hz := Lib.hid hz
      rw [← hz] at hcl
      clear hz
      by_cases hin : 0 ≤ z ∧ z < (p2 n : Int)
      · have HN := Lib.hid (noSet_iff.2 hin)
        have d1 : decide (z < 0) = false := decide_eq_false (by omega)
        have d2 : decide ((p2 n : Int) ≤ z) = false := decide_eq_false (by omega)
        go_wp2_with fail
        go_quiet (fail)
        go_wp2
        go_roundw
        case rel => exact ⟨k + 1, by omega, by go_num, ⟨_, rfl⟩, fun j hj => by
          rcases Nat.lt_succ_iff_lt_or_eq.1 hj with h' | rfl
          · exact hall.out j h'
          · rw [← Hz.out]; exact HN.out⟩
        case measure => simp [intOf]; omega
      · have HO := Lib.hid (Hno.out k hkm (by
          rw [← Hz.out]
          rcases Bool.eq_false_or_eq_true (noSet n z) with e | e
          · exact e
          · exact absurd (noSet_iff.1 e) hin))
        have HG := Lib.hid (mo_no HO.out)
        rw [HG.out.1, HG.out.2, HO.out]
        have f0 := fun k => (hbr1.drewN k).frozen 0
        have f1 := fun k => (hbr1.drewN k).frozen 1
        have hyr := fun k => (hbr1.drewN k).two
        have hor : z < 0 ∨ 0 ≤ z ∧ (p2 n : Int) ≤ z := by omega
        rcases hor with hneg | ⟨hpos, hbig⟩
        · have d1 : decide (z < 0) = true := decide_eq_true hneg
          clear hneg hin
          go_wp2_with fail
          go_quiet (fail)
          have hfin := ((hbr1.drewN (q + nq)).set_ 0 (.slice none 0 0)).set_ 1 (.slice none 0 0) |>.two
          have hbf := ((below_drewN hUW (q + nq)).setCell (p := ⟨w.heap.size, 0, none⟩) (by simp) (.slice none 0 0)).setCell (p := ⟨w.heap.size, 1, none⟩) (by simp) (.slice none 0 0)
          go_wp2_with fail
          generalize ((W1.drewN (q + nq)).setCell ⟨w.heap.size, 0, none⟩ (.slice none 0 0)).setCell ⟨w.heap.size, 1, none⟩ (.slice none 0 0) = Wf at hfin hbf ⊢
          refine bodyPost_ret (v := .tuple #[.agg #[.slice none 0 0, .slice none 0 0], .bool false]) ?_ rfl ?_
          · simp [results, Tryz.results52, go_sem, hfin]
          exact givesTB_none hbf
        · have d1 : decide (z < 0) = false := decide_eq_false (by omega)
          have d2 : decide ((p2 n : Int) ≤ z) = true := decide_eq_true hbig
          clear hpos hbig hin
          go_wp2_with fail
          go_quiet (fail)
          have hfin := ((hbr1.drewN (q + nq)).set_ 0 (.slice none 0 0)).set_ 1 (.slice none 0 0) |>.two
          have hbf := ((below_drewN hUW (q + nq)).setCell (p := ⟨w.heap.size, 0, none⟩) (by simp) (.slice none 0 0)).setCell (p := ⟨w.heap.size, 1, none⟩) (by simp) (.slice none 0 0)
          go_wp2_with fail
          generalize ((W1.drewN (q + nq)).setCell ⟨w.heap.size, 0, none⟩ (.slice none 0 0)).setCell ⟨w.heap.size, 1, none⟩ (.slice none 0 0) = Wf at hfin hbf ⊢
          refine bodyPost_ret (v := .tuple #[.agg #[.slice none 0 0, .slice none 0 0], .bool false]) ?_ rfl ?_
          · simp [results, Tryz.results52, go_sem, hfin]
          exact givesTB_none hbf
    · obtain rfl : k = m := by omega
      have harg := Hyes.out hall.out
      obtain ⟨n', o, e1, rfl, _, _, _, _, hlt⟩ := moArg_spec harg
      obtain rfl : n = n' := by omega
      have hol : o.length = k := by rw [← HL.out, ints_len]
      have Hout := Lib.hid fun v (hv : v < n) (h : fstB o v o.length < 0) => hasMo_out harg hv h
      have Hyes2 := Lib.hid fun h => mo_ok (o := o) harg h
      have Hcs := Lib.hid fun v => fstB_range o v
      have Hlt := Lib.hid hlt
      have Hol := Lib.hid hol
      have hbm1 := hbm.drewN q
      have hbr2 := hbr1.drewN q
      have hUq := below_drewN hUW q
      obtain ⟨W2, hW2⟩ : ∃ W2, W2 = W1.drewN q := ⟨_, rfl⟩
      rw [← hW2] at hbm1 hbr2 hUq ⊢
      have hsz3 : w.heap.size + 1 < W2.heap.size := hbm1.lt
      clear hbm hbr1 hW2 harg hall Hno Hyes hlt hol hL1 hUW
      go_wp2_with fail
      go_loopw [8] (fun s wr => ∃ (v : Nat) (A1 B1 : Option Addr) (c1 d1 : Nat), v ≤ n ∧ s = .int .i64 v ∧ OwnI wr (w.heap.size + 1) A1 v c1 (moF o v) ∧ OwnI wr (w.heap.size + 1) B1 v d1 (moG o v) ∧ (∀ j, (Value.slice A1 v c1).ownBlock = some j → (Value.slice B1 v d1).ownBlock ≠ some j) ∧ Blk wr (w.heap.size + 1) 31 #[.slice A1 v c1, .slice B1 v d1] ∧ Below (w.heap.size + 1) W2 wr ∧ Hid (∀ u, u < v → 0 ≤ fstB o u o.length)) (fun s _ => n - (intOf s).toNat)
      case atStart => exact ⟨0, none, none, 0, 0, Nat.zero_le _, rfl, OwnI.nil_ _ _, OwnI.nil_ _ _, (fun j h => by cases h), hbm1, Below.refl _ _, fun v hv => absurd hv (by omega)⟩
      case round =>
        clear hbm1
        obtain ⟨v, A1, B1, c1, d1, hv, rfl, hownA, hownB, hne, hbm, hb, hpos⟩ := hrel
        obtain ⟨wo, rfl⟩ : ∃ wo : World, wo = wr := ⟨_, rfl⟩
        have hUo : Up w wo := hUq.trans (hb.mono (by omega))
        by_cases hvn : v < n
        · have hLo := hL.up hUo
          go_wp2_with fail
          go_loop [9, 10, 11] (fun x y s => ∃ i : Nat, i ≤ k ∧ s = .int .i64 i ∧ x = .int .i64 (fstB o v i) ∧ y = .int .i64 (lstB o v i)) (fun _ _ s => k - (intOf s).toNat)
          case atStart => exact ⟨0, Nat.zero_le _, rfl, rfl, rfl⟩
          case round =>
            obtain ⟨i, hi, rfl, rfl, rfl⟩ := hrel
            by_cases hit : i < k
            · obtain ⟨a, rfl, hcl⟩ := hLo.nb_at hit
              have hF := Lib.hid (show fstB o v (i + 1) = if fstB o v i < 0 ∧ (nb o i).testBit v = true then (i : Int) else fstB o v i from rfl)
              have hG := Lib.hid (show lstB o v (i + 1) = if (nb o i).testBit v then (i : Int) else lstB o v i from rfl)
              have hxl : nb o i < 128 := by have := Hlt.out i; have := pow_le7 h7; omega
              have hbit := bit_one (nb o i) v (by omega)
              obtain ⟨x, hx⟩ : ∃ x, x = nb o i := ⟨_, rfl⟩
              rw [← hx] at hcl hF hG hbit
              clear hx
              obtain ⟨p, hp⟩ : ∃ p, p = fstB o v i := ⟨_, rfl⟩
              rw [← hp] at hF ⊢
              clear hp
              obtain ⟨r, hr⟩ : ∃ r, r = lstB o v i := ⟨_, rfl⟩
              rw [← hr] at hG ⊢
              clear hr
              rcases Bool.eq_false_or_eq_true (x.testBit v) with e1 | e1
              · rw [e1] at hbit
                rw [e1, if_pos rfl] at hG
                by_cases hp0 : p < 0
                · rw [if_pos ⟨hp0, e1⟩] at hF
                  clear e1
                  go_wp2
                  go_round
                  case rel => exact ⟨i + 1, by omega, by go_num, by rw [hF.out], by rw [hG.out]⟩
                  case measure => simp [intOf]; omega
                · rw [if_neg fun h => hp0 h.1] at hF
                  clear e1
                  go_wp2
                  go_round
                  case rel => exact ⟨i + 1, by omega, by go_num, by rw [hF.out], by rw [hG.out]⟩
                  case measure => simp [intOf]; omega
              · rw [e1] at hbit
                rw [e1, if_neg Bool.false_ne_true] at hG
                rw [e1, if_neg fun h => Bool.false_ne_true h.2] at hF
                clear e1
                go_wp2
                go_round
                case rel => exact ⟨i + 1, by omega, by go_num, by rw [hF.out], by rw [hG.out]⟩
                case measure => simp [intOf]; omega
            · obtain rfl : i = k := by omega
              have hcs := Hcs.out v i
              by_cases hf0 : fstB o v i < 0
              · have HO := Lib.hid (Hout.out v hvn (by rw [Hol.out]; exact hf0))
                have HG := Lib.hid (mo_no HO.out)
                have hbr4 := hbr2.below hb (by omega)
                have hyr := hbr4.two
                have f0 := hbr4.frozen 0
                have f1 := hbr4.frozen 1
                have hfin := ((hbr4.set_ 0 (.slice none 0 0)).set_ 1 (.slice none 0 0)).two
                have hbf := (hUo.setCell (p := ⟨w.heap.size, 0, none⟩) (by simp) (.slice none 0 0)).setCell (p := ⟨w.heap.size, 1, none⟩) (by simp) (.slice none 0 0)
                obtain ⟨p, hp⟩ : ∃ p, p = fstB o v i := ⟨_, rfl⟩
                rw [← hp] at hf0 ⊢
                clear hp hcs
                go_wp2_with fail
                generalize (wo.setCell ⟨w.heap.size, 0, none⟩ (.slice none 0 0)).setCell ⟨w.heap.size, 1, none⟩ (.slice none 0 0) = Wf at hfin hbf ⊢
                refine bodyPost_ret (v := .tuple #[.agg #[.slice none 0 0, .slice none 0 0], .bool false]) ?_ rfl ?_
                · simp [results, Tryz.results52, go_sem, hfin]
                rw [HG.out.1, HG.out.2, HO.out]
                exact givesTB_none hbf
              · have eF := Lib.hid (show List.map (Value.int .i64) (moF o v) ++ [.int .i64 (fstB o v i)] = List.map (Value.int .i64) (moF o (v + 1)) by rw [moF_succ, List.map_append, Hol.out]; rfl)
                have eG := Lib.hid (show List.map (Value.int .i64) (moG o v) ++ [.int .i64 (lstB o v i)] = List.map (Value.int .i64) (moG o (v + 1)) by rw [moG_succ, List.map_append, Hol.out]; rfl)
                have hpos2 := Lib.hid (show ∀ u, u < v + 1 → 0 ≤ fstB o u o.length from fun u hu => by
                  rcases Nat.lt_succ_iff_lt_or_eq.1 hu with h' | rfl
                  · exact hpos.out u h'
                  · rw [Hol.out]; omega)
                obtain ⟨p, hp⟩ : ∃ p, p = fstB o v i := ⟨_, rfl⟩
                rw [← hp] at hf0 eF ⊢
                obtain ⟨r, hr⟩ : ∃ r, r = lstB o v i := ⟨_, rfl⟩
                rw [← hr] at eG ⊢
                clear hp hcs hr hpos
                have T0 := Two.start (W := wo) (base := w.heap.size + 1) hownA hownB hne
                have hym := hbm.two
                have hlm := hbm.lt
                have hna : some (w.heap.size + 1) ≠ (Value.slice A1 v c1).ownBlock := Ne.symm (own_blk_ne (e := 3) hownA hbm (by decide))
                have hnb : some (w.heap.size + 1) ≠ (Value.slice B1 v d1).ownBlock := Ne.symm (own_blk_ne (e := 3) hownB hbm (by decide))
                have hra := Lib.hid (show ∀ k', (Value.slice A1 v c1).ownBlock = some k' → w.heap.size + 1 ≤ k' from fun k' e => (World.ownsRow.lt hownA k' e).1)
                have hrb := Lib.hid (show ∀ k', (Value.slice B1 v d1).ownBlock = some k' → w.heap.size + 1 ≤ k' from fun k' e => (World.ownsRow.lt hownB k' e).1)
                have hcellA := (Blk.new wo 3 #[.int .i64 p]).one
                clear hownA hownB hne
                have hw1 := Lib.hid hb
                go_wp2_with (first
                  | (at_builtin; refine wpListA_int rfl (.tmp 71) (.tmp 73) rfl p rfl (T0.alloc _) ⟨wo.heap.size, 0, none⟩ rfl hcellA (by omega) (by omega) ?_; intro A7 c7 w7 T7 hg7; have hbm7 := T7.blk hbm hna hnb; have hy7 := hbm7.two; have f70 := hbm7.frozen 0; have f71 := hbm7.frozen 1; have hA7 : OwnI w7 (w.heap.size + 1) A7 (v + 1) c7 (moF o (v + 1)) := (by unfold OwnI; rw [← eF.out]; exact T7.a); have hB7 : OwnI w7 (w.heap.size + 1) B1 v d1 (moG o v) := T7.b; have hA8 := hA7.other_store (i := 0) hbm7 (by decide) (.slice A7 (v + 1) c7); have hB8 := hB7.other_store (i := 0) hbm7 (by decide) (.slice A7 (v + 1) c7); have hbm8 := hbm7.set_ 0 (.slice A7 (v + 1) c7); have T8 := Two.start (base := w.heap.size + 1) hA8 hB8 T7.ne; have hy8 := fun o => (hbm8.alloc o).two; have hy8' := hbm8.two; have hcellB := cell_lit (w := w7.setCell ⟨w.heap.size + 1, 0, none⟩ (.slice A7 (v + 1) c7)) (g := w7.heap.size) (e := 3) (y := .int .i64 r) (by simp); have hw8 := (T7.below hw1.out hra.out hrb.out (Nat.le_of_lt hlm)).setCell (p := ⟨w.heap.size + 1, 0, none⟩) (Nat.le_refl _) (.slice A7 (v + 1) c7); have hna8 : some (w.heap.size + 1) ≠ (Value.slice A7 (v + 1) c7).ownBlock := Ne.symm (own_blk_ne (e := 3) hA8 hbm8 (by decide)); have hnb8 : some (w.heap.size + 1) ≠ (Value.slice B1 v d1).ownBlock := Ne.symm (own_blk_ne (e := 3) hB8 hbm8 (by decide)); have hra8 := Lib.hid (show ∀ k', (Value.slice A7 (v + 1) c7).ownBlock = some k' → w.heap.size + 1 ≤ k' from fun k' e => (World.ownsRow.lt hA8 k' e).1); have hl8 := hbm8.lt; clear T0 hbm hcellA hym hna hnb hA7 hB7 hA8 hB8 T7 hbm7 hg7)
                  | (at_builtin; refine wpListB_int rfl (.tmp 77) (.tmp 79) rfl r rfl (T8.alloc _) ⟨w7.heap.size, 0, none⟩ rfl hcellB (by omega) (by omega) ?_; intro B8 d8 w9 T9 hg9; have hbm9 := T9.blk hbm8 hna8 hnb8; have hy9 := hbm9.two; have f91 := hbm9.frozen 1))
                have hw9 := (T9.below hw8 hra8.out hrb.out (by have := hl8; simp at this ⊢; omega)).setCell (p := ⟨w.heap.size + 1, 1, none⟩) (Nat.le_refl _) (.slice B8 (v + 1) d8)
                have hA9 : OwnI w9 (w.heap.size + 1) A7 (v + 1) c7 (moF o (v + 1)) := T9.a
                have hB9 : OwnI w9 (w.heap.size + 1) B8 (v + 1) d8 (moG o (v + 1)) := by unfold OwnI; rw [← eG.out]; exact T9.b
                have hn9 := T9.ne
                clear T9 T8
                go_roundw
                case rel => exact ⟨v + 1, A7, B8, c7, d8, by omega, by go_num, hA9.other_store (i := 1) hbm9 (by decide) _, hB9.other_store (i := 1) hbm9 (by decide) _, hn9, hbm9.set_ 1 _, hw9, hpos2⟩
                case measure => simp [intOf]; omega
        · obtain rfl : v = n := by omega
          have HG := Lib.hid (Hyes2.out (moAll_yes v hpos.out))
          have hbr4 := hbr2.below hb (by omega)
          have f0 := hbr4.frozen 0
          have f1 := hbr4.frozen 1
          have hyr := hbr4.two
          have hym := hbm.two
          have hlr := hbr4.lt
          have hfin := ((hbr4.set_ 0 (.slice A1 v c1)).set_ 1 (.slice B1 v d1)).two
          have hoA := (hownA.other_store (i := 0) hbr4 (by decide) (.slice A1 v c1)).other_store (i := 1) (hbr4.set_ 0 (.slice A1 v c1)) (by decide) (.slice B1 v d1)
          have hoB := (hownB.other_store (i := 0) hbr4 (by decide) (.slice A1 v c1)).other_store (i := 1) (hbr4.set_ 0 (.slice A1 v c1)) (by decide) (.slice B1 v d1)
          have hbf := (hUo.setCell (p := ⟨w.heap.size, 0, none⟩) (by simp) (.slice A1 v c1)).setCell (p := ⟨w.heap.size, 1, none⟩) (by simp) (.slice B1 v d1)
          go_wp2
          generalize (wo.setCell ⟨w.heap.size, 0, none⟩ (.slice A1 v c1)).setCell ⟨w.heap.size, 1, none⟩ (.slice B1 v d1) = Wf at hfin hoA hoB hbf ⊢
          refine bodyPost_ret (v := .tuple #[.agg #[.slice A1 v c1, .slice B1 v d1], .bool true]) ?_ rfl ?_
          · simp [results, Tryz.results52, go_sem, hfin]
          rw [HG.out.1, HG.out.2.1, HG.out.2.2]
          have eA := moF_len o v
          have eB := moG_len o v
          exact ⟨A1, c1, B1, d1, by rw [eA, eB], (hoA.cast eA.symm rfl).more (by omega), (hoB.cast eB.symm rfl).more (by omega), (fun j h1 h2 => hne j (by rw [eA] at h1; exact h1) (by rw [eB] at h2; exact h2)), hbf⟩
end Go.Proofs.YthncdjcmlpiebaaGreat
namespace Go.Proofs.YthncdjcmlpiebaaGreat
open Go.RowKit
set_option maxRecDepth 100000 in
theorem GivesIB.out_noneJ {w : World} {e : Ending} {w' : World} {r : Option (List Nat)} (hr : r = none) (h : GivesIB (optL r) r.isSome w e w') : ∃ A m c, e = .returned (.tuple #[.slice A m c, .bool false]) ∧ Below w.heap.size w w' := by
  subst hr
  obtain ⟨A, c, rfl, _, hb⟩ := h
  exact ⟨A, _, c, rfl, hb⟩
set_option maxRecDepth 100000 in
theorem GivesIB.out_someJ {w : World} {e : Ending} {w' : World} {r : Option (List Nat)} {q : List Nat} (hr : r = some q) (h : GivesIB (optL r) r.isSome w e w') : ∃ A c, e = .returned (.tuple #[.slice A q.length c, .bool true]) ∧ OwnI w' w.heap.size A q.length c (ints q) ∧ Below w.heap.size w w' := by
  subst hr
  obtain ⟨A, c, rfl, hown, hb⟩ := h
  have e : (optL (some q)).length = q.length := ints_len q
  rw [e] at hown ⊢
  exact ⟨A, c, rfl, hown, hb⟩
def ivmOf (N : Int) (X : List Int) : List Int × List Int × Bool :=
  match ordOf N X with
  | none => ([], [], false)
  | some q => (moL (ints q) N, moR (ints q) N, hasMo (ints q) N)
set_option maxRecDepth 100000 in
theorem ivmOf_none {N : Int} {X : List Int} (h : ordOf N X = none) : ivmOf N X = ([], [], false) := by rw [ivmOf, h]
set_option maxRecDepth 100000 in
theorem ivmOf_some {N : Int} {X : List Int} {q : List Nat} (h : ordOf N X = some q) : ivmOf N X = (moL (ints q) N, moR (ints q) N, hasMo (ints q) N) := by rw [ivmOf, h]
set_option maxRecDepth 100000 in
theorem ordOf_len {N : Int} {X : List Int} {r : List Nat} (h : ordOf N X = some r) : r.length ≤ 128 := by
  rcases Bool.eq_false_or_eq_true (elimOf N X).isSome with e | e
  · have hok := cliques_ok e
    rw [ordOf, cliqOrds_yes e] at h
    have := (ords_spec hok.1 (List.mem_of_head? h) (by simp)).1
    rw [this]
    simpa using hok.2.2
  · rw [ordOf, cliqOrds_no e] at h; cases h
set_option maxRecDepth 100000 in
set_option maxHeartbeats 2000000 in
theorem implIntervalModelOf_any (N : Int) (A : Option Addr) (n c : Nat) (X : List Int) (w : World) (hX : RI w A n X) (hn : n ≤ 9223372036854775807) :
    Calls Tryz.prog 32 #[.agg #[.int .i64 N, .slice A n c]] w (GivesTB (ivmOf N X).1 (ivmOf N X).2.1 (ivmOf N X).2.2 w) := by
  have hG := (Blk.new w 26 #[.int .i64 N, .slice A n c]).alloc (.cells #[.slice none 0 0, .slice none 0 0] 31)
  have hM : Blk ((w.alloc (.cells #[.int .i64 N, .slice A n c] 26)).alloc (.cells #[.slice none 0 0, .slice none 0 0] 31)) (w.heap.size + 1) 31 #[.slice none 0 0, .slice none 0 0] := Blk.new_at (by simp)
  have hU0 : Up w ((w.alloc (.cells #[.int .i64 N, .slice A n c] 26)).alloc (.cells #[.slice none 0 0, .slice none 0 0] 31)) := by go_grown
  rcases hr : ordOf N X with _ | q
  · have H1 := Lib.hid hr
    rw [ivmOf_none hr]
    clear hr
    go_enter Tryz.func32, Tryz.ntmps32
    go_wp2_with fail
    refine (implCliqueOrderOf_any N A n c X _ (hX.up hU0) hn).mono ?_
    intro e w1 h1
    obtain ⟨A1, m1, c1, rfl, hb1⟩ := h1.out_noneJ H1.out
    have hU1 : Up w w1 := Up.then_ hU0 hb1
    replace hM := hM.up hb1
    have f0 := hM.frozen 0
    have f1 := hM.frozen 1
    have hy := hM.two
    have hl := hM.lt
    have hfin := ((hM.set_ 0 (.slice none 0 0)).set_ 1 (.slice none 0 0)).two
    have hbf := (hU1.setCell (p := ⟨w.heap.size + 1, 0, none⟩) (by simp) (.slice none 0 0)).setCell (p := ⟨w.heap.size + 1, 1, none⟩) (by simp) (.slice none 0 0)
    clear h1 hG
    go_wp2
    generalize (w1.setCell ⟨w.heap.size + 1, 0, none⟩ (.slice none 0 0)).setCell ⟨w.heap.size + 1, 1, none⟩ (.slice none 0 0) = Wf at hfin hbf ⊢
    refine bodyPost_ret (v := .tuple #[.agg #[.slice none 0 0, .slice none 0 0], .bool false]) ?_ rfl ?_
    · simp [results, Tryz.results32, go_sem, hfin]
    exact givesTB_none hbf
  · have H1 := Lib.hid hr
    have hql := ordOf_len hr
    rw [ivmOf_some hr]
    clear hr
    obtain ⟨ml, hml⟩ : ∃ ml, ml = moL (ints q) N := ⟨_, rfl⟩
    obtain ⟨mr, hmr⟩ : ∃ mr, mr = moR (ints q) N := ⟨_, rfl⟩
    obtain ⟨mb, hmb⟩ : ∃ mb, mb = hasMo (ints q) N := ⟨_, rfl⟩
    have HM := Lib.hid (And.intro hml (And.intro hmr hmb))
    rw [← hml, ← hmr, ← hmb]
    clear hml hmr hmb
    go_enter Tryz.func32, Tryz.ntmps32
    go_wp2_with fail
    refine (implCliqueOrderOf_any N A n c X _ (hX.up hU0) hn).mono ?_
    intro e w1 h1
    obtain ⟨A1, c1, rfl, hown1, hb1⟩ := h1.out_someJ H1.out
    have hU1 : Up w w1 := Up.then_ hU0 hb1
    replace hM := hM.up hb1
    replace hG := hG.up hb1
    have hyG := hG.two
    have hlG := hG.lt
    clear h1
    go_wp2_with fail
    refine (implModelOfOrder_any A1 q.length c1 (ints q) N w1 hown1.ri (by omega)).mono ?_
    rintro e w2 ⟨A2, c2, B2, d2, rfl, hoA, hoB, hne, hb2⟩
    rw [← HM.out.1] at hoA hne ⊢
    rw [← HM.out.2.1] at hoB hne ⊢
    rw [← HM.out.2.2]
    have hU2 := Up.then_ hU1 hb2
    replace hM := hM.up hb2
    have f0 := hM.frozen 0
    have f1 := hM.frozen 1
    have hy := hM.two
    have hl := hM.lt
    have hsz : w.heap.size ≤ w1.heap.size := hU1.size
    have hfin := ((hM.set_ 0 (.slice A2 ml.length c2)).set_ 1 (.slice B2 mr.length d2)).two
    have hA3 := (hoA.other_store (i := 0) hM (by decide) (.slice A2 ml.length c2)).other_store (i := 1) (hM.set_ 0 (.slice A2 ml.length c2)) (by decide) (.slice B2 mr.length d2)
    have hB3 := (hoB.other_store (i := 0) hM (by decide) (.slice A2 ml.length c2)).other_store (i := 1) (hM.set_ 0 (.slice A2 ml.length c2)) (by decide) (.slice B2 mr.length d2)
    have hbf := (hU2.setCell (p := ⟨w.heap.size + 1, 0, none⟩) (by simp) (.slice A2 ml.length c2)).setCell (p := ⟨w.heap.size + 1, 1, none⟩) (by simp) (.slice B2 mr.length d2)
    clear hyG hlG hoA hoB hG hown1
    go_wp2
    generalize (w2.setCell ⟨w.heap.size + 1, 0, none⟩ (.slice A2 ml.length c2)).setCell ⟨w.heap.size + 1, 1, none⟩ (.slice B2 mr.length d2) = Wf at hfin hA3 hB3 hbf ⊢
    refine bodyPost_ret (v := .tuple #[.agg #[.slice A2 ml.length c2, .slice B2 mr.length d2], .bool mb]) ?_ rfl ?_
    · simp [results, Tryz.results32, go_sem, hfin]
    exact ⟨A2, c2, B2, d2, rfl, hA3.more hsz, hB3.more hsz, hne, hbf⟩
set_option maxRecDepth 100000 in
set_option maxHeartbeats 2000000 in
theorem specIntervalModelOf_any (N : Int) (A : Option Addr) (n c : Nat) (X : List Int) (w : World) (hX : RI w A n X) (hn : n ≤ 9223372036854775807) :
    Calls Tryz.prog 33 #[.agg #[.int .i64 N, .slice A n c]] w (GivesTB (ivmOf N X).1 (ivmOf N X).2.1 (ivmOf N X).2.2 w) := by
  have hG := (Blk.new w 26 #[.int .i64 N, .slice A n c]).alloc (.cells #[.slice none 0 0, .slice none 0 0] 31)
  have hM : Blk ((w.alloc (.cells #[.int .i64 N, .slice A n c] 26)).alloc (.cells #[.slice none 0 0, .slice none 0 0] 31)) (w.heap.size + 1) 31 #[.slice none 0 0, .slice none 0 0] := Blk.new_at (by simp)
  have hU0 : Up w ((w.alloc (.cells #[.int .i64 N, .slice A n c] 26)).alloc (.cells #[.slice none 0 0, .slice none 0 0] 31)) := by go_grown
  rcases hr : ordOf N X with _ | q
  · have H1 := Lib.hid hr
    rw [ivmOf_none hr]
    clear hr
    go_enter Tryz.func33, Tryz.ntmps33
    go_wp2_with fail
    refine (specCliqueOrderOf_any N A n c X _ (hX.up hU0) hn).mono ?_
    intro e w1 h1
    obtain ⟨A1, m1, c1, rfl, hb1⟩ := h1.out_noneJ H1.out
    have hU1 : Up w w1 := Up.then_ hU0 hb1
    replace hM := hM.up hb1
    have f0 := hM.frozen 0
    have f1 := hM.frozen 1
    have hy := hM.two
    have hl := hM.lt
    have hfin := ((hM.set_ 0 (.slice none 0 0)).set_ 1 (.slice none 0 0)).two
    have hbf := (hU1.setCell (p := ⟨w.heap.size + 1, 0, none⟩) (by simp) (.slice none 0 0)).setCell (p := ⟨w.heap.size + 1, 1, none⟩) (by simp) (.slice none 0 0)
    clear h1 hG
    go_wp2
    generalize (w1.setCell ⟨w.heap.size + 1, 0, none⟩ (.slice none 0 0)).setCell ⟨w.heap.size + 1, 1, none⟩ (.slice none 0 0) = Wf at hfin hbf ⊢
    refine bodyPost_ret (v := .tuple #[.agg #[.slice none 0 0, .slice none 0 0], .bool false]) ?_ rfl ?_
    · simp [results, Tryz.results33, go_sem, hfin]
    exact givesTB_none hbf
  · have H1 := Lib.hid hr
    have hql := ordOf_len hr
    rw [ivmOf_some hr]
    clear hr
    obtain ⟨ml, hml⟩ : ∃ ml, ml = moL (ints q) N := ⟨_, rfl⟩
    obtain ⟨mr, hmr⟩ : ∃ mr, mr = moR (ints q) N := ⟨_, rfl⟩
    obtain ⟨mb, hmb⟩ : ∃ mb, mb = hasMo (ints q) N := ⟨_, rfl⟩
    have HM := Lib.hid (And.intro hml (And.intro hmr hmb))
    rw [← hml, ← hmr, ← hmb]
    clear hml hmr hmb
    go_enter Tryz.func33, Tryz.ntmps33
    go_wp2_with fail
    refine (specCliqueOrderOf_any N A n c X _ (hX.up hU0) hn).mono ?_
    intro e w1 h1
    obtain ⟨A1, c1, rfl, hown1, hb1⟩ := h1.out_someJ H1.out
    have hU1 : Up w w1 := Up.then_ hU0 hb1
    replace hM := hM.up hb1
    replace hG := hG.up hb1
    have hyG := hG.two
    have hlG := hG.lt
    clear h1
    go_wp2_with fail
    refine (specModelOfOrder_any A1 q.length c1 (ints q) N w1 hown1.ri (by omega)).mono ?_
    rintro e w2 ⟨A2, c2, B2, d2, rfl, hoA, hoB, hne, hb2⟩
    rw [← HM.out.1] at hoA hne ⊢
    rw [← HM.out.2.1] at hoB hne ⊢
    rw [← HM.out.2.2]
    have hU2 := Up.then_ hU1 hb2
    replace hM := hM.up hb2
    have f0 := hM.frozen 0
    have f1 := hM.frozen 1
    have hy := hM.two
    have hl := hM.lt
    have hsz : w.heap.size ≤ w1.heap.size := hU1.size
    have hfin := (((hM.set_ 0 (.slice A2 ml.length c2)).set_ 1 (.slice B2 mr.length d2)).alloc (.cells #[.slice A2 ml.length c2, .slice B2 mr.length d2] 31)).two
    have hA3 := ((hoA.other_store (i := 0) hM (by decide) (.slice A2 ml.length c2)).other_store (i := 1) (hM.set_ 0 (.slice A2 ml.length c2)) (by decide) (.slice B2 mr.length d2)).alloc (.cells #[.slice A2 ml.length c2, .slice B2 mr.length d2] 31)
    have hB3 := ((hoB.other_store (i := 0) hM (by decide) (.slice A2 ml.length c2)).other_store (i := 1) (hM.set_ 0 (.slice A2 ml.length c2)) (by decide) (.slice B2 mr.length d2)).alloc (.cells #[.slice A2 ml.length c2, .slice B2 mr.length d2] 31)
    have hbf0 := (hU2.setCell (p := ⟨w.heap.size + 1, 0, none⟩) (by simp) (.slice A2 ml.length c2)).setCell (p := ⟨w.heap.size + 1, 1, none⟩) (by simp) (.slice B2 mr.length d2)
    have hbf := hbf0.alloc hbf0.size (.cells #[.slice A2 ml.length c2, .slice B2 mr.length d2] 31)
    clear hyG hlG hoA hoB hG hown1 hbf0
    go_wp2
    generalize ((w2.setCell ⟨w.heap.size + 1, 0, none⟩ (.slice A2 ml.length c2)).setCell ⟨w.heap.size + 1, 1, none⟩ (.slice B2 mr.length d2)).alloc (.cells #[.slice A2 ml.length c2, .slice B2 mr.length d2] 31) = Wf at hfin hA3 hB3 hbf ⊢
    refine bodyPost_ret (v := .tuple #[.agg #[.slice A2 ml.length c2, .slice B2 mr.length d2], .bool mb]) ?_ rfl ?_
    · simp [results, Tryz.results33, go_sem, hfin]
    exact ⟨A2, c2, B2, d2, rfl, hA3.more hsz, hB3.more hsz, hne, hbf⟩
end Go.Proofs.YthncdjcmlpiebaaGreat
namespace Go.Proofs.YthncdjcmlpiebaaGreat
theorem ords_good {L : List Nat} : ∀ {f : Nat} {l r : List Nat}, r ∈ ords L f l → l.Nodup → (∀ x ∈ l, x ∈ L) → (f = 0 → fol l = true) → r.Nodup ∧ (∀ x ∈ r, x ∈ L) ∧ fol r = true
  | 0, l, r, h, h1, h2, h3 => by
    obtain rfl : r = l := by simpa [ords] using h
    exact ⟨h1, h2, h3 rfl⟩
  | f + 1, l, r, h, h1, h2, _ => by
    rw [ords, List.mem_flatMap] at h
    obtain ⟨s, hs, h⟩ := h
    split at h
    · rename_i hm
      rw [mayC, Bool.and_eq_true, Bool.not_eq_true', decide_eq_false_iff_not] at hm
      refine ords_good h ?_ (fun x hx => ?_) fun _ => hm.2
      · rw [List.nodup_append]
        exact ⟨h1, by simp, fun a ha b hb e => by
          rw [List.mem_singleton] at hb
          subst hb; subst e
          exact hm.1 ha⟩
      · rcases List.mem_append.1 hx with hx | hx
        · exact h2 x hx
        · obtain rfl : x = s := by simpa using hx
          exact hs
    · cases h
theorem full_perm {r L : List Nat} (h1 : r.Nodup) (h2 : ∀ x ∈ r, x ∈ L) (h3 : L.Nodup) (hl : r.length = L.length) : r.Perm L := by
  refine (List.perm_ext_iff_of_nodup h1 h3).2 fun x => ⟨h2 x, fun hx => Classical.byContradiction fun hn => ?_⟩
  have := nodup_sub (l := x :: r) (m := L) (List.nodup_cons.2 ⟨hn, h1⟩) (fun y hy => by
    rcases List.mem_cons.1 hy with rfl | hy
    · exact hx
    · exact h2 y hy)
  rw [List.length_cons] at this
  omega
theorem seenK_bit {l : List Nat} {v : Nat} : ∀ {k}, (seenK l k).testBit v = true ↔ ∃ j, j < k ∧ (nb l j).testBit v = true
  | 0 => by simp [seenK]
  | k + 1 => by
    rw [seenK, Nat.testBit_or, Bool.or_eq_true, seenK_bit]
    constructor
    · rintro (⟨j, hj, e⟩ | e)
      · exact ⟨j, by omega, e⟩
      · exact ⟨k, by omega, e⟩
    · rintro ⟨j, hj, e⟩
      rcases Nat.lt_succ_iff_lt_or_eq.1 hj with h | rfl
      · exact .inl ⟨j, h, e⟩
      · exact .inr e
theorem fol_prev {l : List Nat} (hf : fol l = true) {v i k : Nat} (hik : i < k) (hk : k < l.length) (hi : (nb l i).testBit v = true) (hkv : (nb l k).testBit v = true) : (nb l (k - 1)).testBit v = true := by
  have h := fol_iff.1 hf k hk
  rw [folAt, beq_iff_eq] at h
  have := congrArg (fun x => x.testBit v) h
  obtain ⟨m, rfl⟩ : ∃ m, k = m + 1 := ⟨k - 1, by omega⟩
  simp only [testBit_dif, Nat.testBit_and, hkv, seenK_bit.2 ⟨i, hik, hi⟩, Nat.zero_testBit, lastK, Bool.true_and, Bool.not_eq_false'] at this
  exact this
theorem fol_mid {l : List Nat} (hf : fol l = true) {v i : Nat} (hi : (nb l i).testBit v = true) : ∀ d j, i ≤ j → j + d < l.length → (nb l (j + d)).testBit v = true → (nb l j).testBit v = true
  | 0, j, _, _, h => h
  | d + 1, j, hij, hk, h => by
    have := fol_prev hf (i := i) (k := j + (d + 1)) (by omega) hk hi h
    exact fol_mid hf hi d j hij (by omega) this
theorem fstB_at {o : List Nat} {v j : Nat} : ∀ {k}, j < k → (nb o j).testBit v = true → ∃ i : Nat, fstB o v k = (i : Int) ∧ i ≤ j ∧ (nb o i).testBit v = true := fun {k} hj e => by
  rcases fstB_cases o v k with ⟨_, _, h3⟩ | ⟨i, h1, h2, h3, h4, _⟩
  · rw [h3 j hj] at e; cases e
  · refine ⟨i, h2, ?_, h3⟩
    rcases Nat.lt_or_ge j i with h | h
    · rw [h4 j h] at e; cases e
    · exact h
theorem lstB_at {o : List Nat} {v j : Nat} : ∀ {k}, j < k → (nb o j).testBit v = true → ∃ i : Nat, lstB o v k = (i : Int) ∧ j ≤ i ∧ i < k ∧ (nb o i).testBit v = true
  | 0, h, _ => by omega
  | k + 1, h, e => by
    rw [lstB]
    by_cases hk : (nb o k).testBit v = true
    · rw [if_pos hk]; exact ⟨k, rfl, by omega, by omega, hk⟩
    · rw [if_neg hk]
      rcases Nat.lt_succ_iff_lt_or_eq.1 h with h' | rfl
      · obtain ⟨i, h1, h2, h3, h4⟩ := lstB_at h' e
        exact ⟨i, h1, h2, by omega, h4⟩
      · exact absurd e hk
theorem one_clq {n : Nat} {Q : List Nat} (h : GOk n Q) {v : Nat} : clq Q (2 ^ v) = true := by
  rw [clq_pairs h]
  intro a _ ha b hb hne
  rw [Nat.testBit_two_pow, decide_eq_true_eq] at ha hb
  omega
theorem two_clq {n : Nat} {Q : List Nat} (h : GOk n Q) {u v : Nat} (e : edge Q u v = true) : clq Q (2 ^ u ||| 2 ^ v) = true := by
  rw [clq_pairs h]
  intro a _ ha b hb hne
  rw [Nat.testBit_or, Bool.or_eq_true, Nat.testBit_two_pow, Nat.testBit_two_pow, decide_eq_true_eq, decide_eq_true_eq] at ha hb
  rcases ha with rfl | rfl <;> rcases hb with rfl | rfl
  · exact absurd rfl hne
  · exact e
  · rw [h.edge_comm]; exact e
  · exact absurd rfl hne
/-- An order of the maximal cliques such that those with a vertex follow one another. -/
structure CO (n : Nat) (Q r : List Nat) : Prop where
  perm : r.Perm (maxCliques Q n)
  fol : fol r = true
theorem CO.cover {n : Nat} {Q r : List Nat} (C : CO n Q r) (h : GOk n Q) {s : Nat} (hs : s < 2 ^ n) (hc : clq Q s = true) : ∃ j, j < r.length ∧ ∀ i, s.testBit i = true → (nb r j).testBit i = true := by
  obtain ⟨M, hM, hsub⟩ := clq_ext h hs hc
  obtain ⟨j, hj, e⟩ := nbU_mem (C.perm.mem_iff.2 hM)
  exact ⟨j, hj, by rw [e]; exact hsub⟩
theorem CO.bag {n : Nat} {Q r : List Nat} (C : CO n Q r) {j : Nat} (hj : j < r.length) : nb r j < 2 ^ n ∧ clq Q (nb r j) = true := by
  have := C.perm.mem_iff.1 (nb_mem hj)
  obtain ⟨_, h2, _, h4⟩ := maxC_spec this
  exact ⟨h2, h4⟩
theorem CO.at_ {n : Nat} {Q r : List Nat} (C : CO n Q r) (h : GOk n Q) {v : Nat} (hv : v < n) : ∃ i k : Nat, fstB r v r.length = (i : Int) ∧ lstB r v r.length = (k : Int) ∧ i ≤ k ∧ k < r.length ∧ ∀ j, (j < r.length ∧ (nb r j).testBit v = true) ↔ i ≤ j ∧ j ≤ k := by
  obtain ⟨j, hj, e⟩ := C.cover h (Nat.pow_lt_pow_right (by omega) hv) (one_clq h (v := v))
  have e := e v (by rw [Nat.testBit_two_pow]; simp)
  obtain ⟨i, hi, hij, ei⟩ := fstB_at hj e
  obtain ⟨k, hk, hjk, hkl, ek⟩ := lstB_at hj e
  refine ⟨i, k, hi, hk, by omega, hkl, fun m => ⟨fun ⟨hm, em⟩ => ?_, fun ⟨h1, h2⟩ => ⟨by omega, ?_⟩⟩⟩
  · obtain ⟨i', hi', him, _⟩ := fstB_at hm em
    obtain ⟨k', hk', hmk, _, _⟩ := lstB_at hm em
    omega
  · refine fol_mid C.fol ei (k - m) m h1 (by omega) ?_
    rw [show m + (k - m) = k by omega]; exact ek
theorem CO.iv {n : Nat} {Q r : List Nat} (C : CO n Q r) (h : GOk n Q) : IV n Q (fun v => fstB r v r.length) (fun v => lstB r v r.length) := by
  refine ⟨fun v hv => ?_, fun u v hu hv hne => ?_⟩
  · obtain ⟨i, k, e1, e2, e3, _⟩ := C.at_ h hv
    show fstB r v r.length ≤ lstB r v r.length
    omega
  · obtain ⟨i, k, e1, e2, e3, e4, e5⟩ := C.at_ h hu
    obtain ⟨i', k', g1, g2, g3, g4, g5⟩ := C.at_ h hv
    show edge Q u v = true ↔ fstB r u r.length ≤ lstB r v r.length ∧ fstB r v r.length ≤ lstB r u r.length
    rw [e1, e2, g1, g2]
    constructor
    · intro e
      obtain ⟨j, hj, hb⟩ := C.cover h (Nat.or_lt_two_pow (Nat.pow_lt_pow_right (by omega) hu) (Nat.pow_lt_pow_right (by omega) hv)) (two_clq h e)
      have b1 := hb u (by rw [Nat.testBit_or, Nat.testBit_two_pow]; simp)
      have b2 := hb v (by rw [Nat.testBit_or, Nat.testBit_two_pow, Nat.testBit_two_pow]; simp)
      have := (e5 j).1 ⟨hj, b1⟩
      have := (g5 j).1 ⟨hj, b2⟩
      omega
    · intro ⟨h1, h2⟩
      obtain ⟨j, hj⟩ : ∃ j, j = max i i' := ⟨_, rfl⟩
      have b1 := (e5 j).2 (by omega)
      have b2 := (g5 j).2 (by omega)
      have hc := (C.bag b1.1).2
      rw [clq_pairs h] at hc
      have := h.le
      exact hc u (by omega) b1.2 v b2.2 (Ne.symm hne)
theorem ordOf_co {N : Int} {X : List Int} {q : List Nat} (hq : ordOf N X = some q) : ∃ (n : Nat) (Q : List Nat), N = n ∧ X = ints Q ∧ GOk n Q ∧ CO n Q q ∧ q.length ≤ n := by
  have hc : (elimOf N X).isSome = true := by
    rcases Bool.eq_false_or_eq_true (elimOf N X).isSome with e | e
    · exact e
    · rw [ordOf, cliqOrds_no e] at hq; cases hq
  rw [ordOf, cliqOrds_yes hc] at hq
  obtain ⟨n, Q, rfl, rfl, h, e⟩ := chordal_cases hc
  rw [e] at hq
  have hm := List.mem_of_head? hq
  have hp := maxCliques_pos h
  have hl := (ords_spec (b := 2 ^ n) (fun x hx => maxCliques_lt hx) hm (by simp)).1
  rw [List.length_nil, Nat.zero_add] at hl
  obtain ⟨g1, g2, g3⟩ := ords_good hm List.nodup_nil (by simp) (fun e => by omega)
  obtain ⟨t, ht⟩ := Option.isSome_iff_exists.1 hc
  rw [elimOf_ok h] at ht
  obtain ⟨t', _, hE⟩ := elimR_elim (full_lt h.le) ht
  have hf := maxCliques_few h hE
  exact ⟨n, Q, rfl, rfl, h, ⟨full_perm g1 g2 (maxK_nodup Q n _) hl, g3⟩, by omega⟩
theorem iv_model {n : Nat} {Q : List Nat} (h : GOk n Q) {L R : List Int} (hm : isModel L R = true) (hl : L.length = n) (hi : IV n Q (fun v => L.getD v 0) (fun v => R.getD v 0)) : isModelOf n (ints Q) L R = true := by
  have hg := graphRows_ok hm
  have h2 := graphRows_iv hm
  rw [hl] at hg h2
  have e : graphRows L R = Q := graph_ext hg h fun x y hx hy => by
    by_cases hne : x = y
    · subst hne
      rw [edge_irr hg, edge_irr h]
    · rw [Bool.eq_iff_iff, h2.adj x y hx hy hne, hi.adj x y hx hy hne]
  obtain ⟨e1, e2⟩ := goi_ok hm
  rw [isModelOf, hm, e1, e2, e, hl, sameGraph_yes, decide_eq_true rfl]
  rfl
/-- The order that is found is one, and its model is a model of the graph. -/
theorem ord_model {N : Int} {X : List Int} {q : List Nat} (hq : ordOf N X = some q) : isCliqOrd N X (ints q) = true ∧ hasMo (ints q) N = true ∧ isModelOf N X (moL (ints q) N) (moR (ints q) N) = true ∧ ∃ (n : Nat) (Q : List Nat) (a b : Nat → Int), N = n ∧ X = ints Q ∧ GOk n Q ∧ IV n Q a b := by
  obtain ⟨n, Q, rfl, rfl, h, C, hlen⟩ := ordOf_co hq
  have hp := maxCliques_pos h
  have hl := C.perm.length_eq
  have h7 := h.le
  have hs : sortI (ints q) = ints (maxCliques Q n) := by
    refine sorted_unique (sortI_sorted _) ?_ ((sortI_perm _).trans (C.perm.map _))
    have := maxK_sorted Q n (2 ^ n - 1)
    rw [ints, List.pairwise_map]
    exact this.imp fun h => by omega
  have harg : moArg (ints q) n = true := by
    rw [moArg, decide_eq_true (by have := h.pos; omega), decide_eq_true (by omega), decide_eq_true (by rw [ints_len]; omega), decide_eq_true (by rw [ints_len]; omega)]
    simp only [Bool.true_and, List.all_eq_true, Bool.and_eq_true, decide_eq_true_eq]
    intro x hx
    obtain ⟨y, hy, rfl⟩ := List.mem_map.1 hx
    have := maxCliques_lt (C.perm.mem_iff.1 hy)
    rw [Int.toNat_natCast]
    omega
  have hall : moAll q n = true := moAll_yes n fun v hv => by
    obtain ⟨i, k, e1, _⟩ := C.at_ h hv
    omega
  obtain ⟨m1, m2, m3⟩ := mo_ok harg hall
  refine ⟨?_, m3, ?_, n, Q, _, _, rfl, rfl, h, C.iv h⟩
  · rw [isCliqOrd, h.is, maxCliquesOf_ok h, hs, decide_eq_true rfl, nats_ints4, C.fol]
    rfl
  · rw [m1, m2]
    have gF : ∀ v, v < n → (moF q n).getD v 0 = fstB q v q.length := fun v hv => by simp [moF, List.getD, List.getElem?_map, List.getElem?_range hv]
    have gG : ∀ v, v < n → (moG q n).getD v 0 = lstB q v q.length := fun v hv => by simp [moG, List.getD, List.getElem?_map, List.getElem?_range hv]
    have hm : isModel (moF q n) (moG q n) = true := by
      refine isModel_true (by rw [moF_len]; exact h.pos) (by rw [moF_len]; exact h7) (by rw [moF_len, moG_len]) fun j hj => ?_
      rw [moF_len] at hj
      rw [gF j hj, gG j hj, mOk_iff]
      obtain ⟨i, k, e1, e2, e3, e4, _⟩ := C.at_ h hj
      omega
    refine iv_model h hm (moF_len q n) ?_
    have hi := C.iv h
    refine ⟨fun v hv => ?_, fun u v hu hv hne => ?_⟩
    · show (moF q n).getD v 0 ≤ (moG q n).getD v 0
      rw [gF v hv, gG v hv]; exact hi.le v hv
    · show _ ↔ (moF q n).getD u 0 ≤ (moG q n).getD v 0 ∧ (moF q n).getD v 0 ≤ (moG q n).getD u 0
      rw [gF u hu, gG u hu, gF v hv, gG v hv]; exact hi.adj u v hu hv hne
theorem IV.ord_some {n : Nat} {Q : List Nat} {a b : Nat → Int} (hi : IV n Q a b) (h : GOk n Q) : (ordOf n (ints Q)).isSome = true := by
  have hc : (elimOf n (ints Q)).isSome = true := by
    rw [chordal_iff, h.is, hi.hole_none h]; rfl
  have := hi.orders h
  rw [ordOf, cliqOrds_yes hc, maxCliquesOf_ok h]
  rcases ho : ords (maxCliques Q n) (maxCliques Q n).length [] with _ | ⟨x, xs⟩
  · exact absurd ho this
  · rfl
theorem ivObs_holds {N : Int} {X : List Int} {p : List Nat} (hp : ivObsOf N X = some p) : isIvObs N X (ints p) = true := by
  rcases graph_cases N X with hg | ⟨n, Q, rfl, rfl, h⟩
  · rw [ivObsOf, holeOf_no hg, tripOf_no hg] at hp; cases hp
  · rw [ivObsOf, Option.or_eq_some_iff] at hp
    rw [isIvObs, Bool.or_eq_true]
    rcases hp with hp | ⟨_, hp⟩
    · exact .inl ((isHole_iff h).2 (holeOf_some h hp))
    · obtain ⟨a, b, c, rfl, _, _, _, e⟩ := tripOf_some h hp
      refine .inr ?_
      rw [Bool.and_eq_true]
      exact ⟨rfl, e⟩
/-- A small graph has an order of cliques exactly if nothing stands against it. -/
theorem iv_law {N : Int} {X : List Int} (hg : isGraph N X = true) (h6 : X.length ≤ 6) : (ivObsOf N X).isSome = !(ordOf N X).isSome := by
  obtain ⟨n, Q, rfl, rfl, h⟩ := isGraph_ok hg
  rw [ints_len, h.len] at h6
  rcases ho : ordOf n (ints Q) with _ | q
  · rw [Option.isSome_none, Bool.not_false]
    rcases hh : holeOf n (ints Q) with _ | r
    · rcases ht : tripOf n (ints Q) with _ | r
      · have hc : (elimOf n (ints Q)).isSome = true := by rw [chordal_iff, hg, hh]; rfl
        obtain ⟨⟨q, h1, h2, h3⟩, _⟩ := small_cases h h6 hc ht
        obtain ⟨a, b, hi⟩ := ordI_IV h h1 h2 h3
        have := hi.ord_some h
        rw [ho] at this; cases this
      · rw [ivObsOf, hh, ht]; rfl
    · rw [ivObsOf, hh]; rfl
  · rw [Option.isSome_some, Bool.not_true]
    obtain ⟨_, _, _, n', Q', a, b, e1, e2, h', hi⟩ := ord_model ho
    have e1 : n = n' := by omega
    subst e1
    rw [e2, ivObsOf, hi.hole_none h', hi.trip_none h']
    rfl
end Go.Proofs.YthncdjcmlpiebaaGreat
namespace Go.Proofs.YthncdjcmlpiebaaGreat
def legs : List Nat := [14, 17, 33, 65, 2, 4, 8]
theorem legs_ok : GOk 7 legs := by
  have e : legs = addE (addE (addE (addE (addE (addE (List.replicate 7 0) 0 1) 0 2) 0 3) 1 4) 2 5) 3 6 := by decide
  rw [e]
  exact ((((((GOk.empty (by omega) (by omega)).addE (by omega) (by omega) (by omega)).addE (by omega) (by omega) (by omega)).addE (by omega) (by omega) (by omega)).addE (by omega) (by omega) (by omega)).addE (by omega) (by omega) (by omega)).addE (by omega) (by omega) (by omega)
def avB (Q : List Nat) (n a b c : Nat) : Bool := (awayS Q n c).testBit a && (awayS Q n c).testBit b && (grow Q (awayS Q n c) (2 ^ b) n).testBit a
def tripB (Q : List Nat) (n : Nat) : Bool := (List.range n).any fun a => (List.range n).any fun b => (List.range n).any fun c => decide (a ≠ b ∧ b ≠ c ∧ c ≠ a) && avB Q n a b c && avB Q n b c a && avB Q n c a b
theorem tripB_trip {n : Nat} {Q : List Nat} (h : tripB Q n = true) : ∃ a b c, a < n ∧ b < n ∧ c < n ∧ Trip Q n a b c := by
  simp only [tripB, List.any_eq_true, List.mem_range, Bool.and_eq_true, decide_eq_true_eq, avB] at h
  obtain ⟨a, ha, b, hb, c, hc, ⟨⟨hne, ⟨a1, a2⟩, a3⟩, ⟨b1, b2⟩, b3⟩, ⟨c1, c2⟩, c3⟩ := h
  exact ⟨a, b, c, ha, hb, hc, hne, ⟨a1, a2, n, a3⟩, ⟨b1, b2, n, b3⟩, c1, c2, n, c3⟩
theorem clawS_found {n : Nat} {Q : List Nat} (h : GOk n Q) (ht : clawS Q n = true) : (clawOf n (ints Q)).isSome = true := by
  simp only [clawS, List.any_eq_true, List.mem_range, Bool.and_eq_true, Bool.not_eq_true'] at ht
  obtain ⟨c, hc, x, hx, e1, y, hy, ⟨e2, e4⟩, z, hz, ⟨e3, e5⟩, e6⟩ := ht
  have irr : ∀ j, (nb Q c).testBit j = true → c ≠ j := fun j e k => by
    subst k
    rw [h.irr] at e
    cases e
  have n1 := irr x e1
  have n2 := irr y e2
  have n3 := irr z e3
  refine claw_found h (c := c) (x := x) (y := y) (z := z) ⟨fun v hv => ?_, ?_⟩ e1 e2 e3 e4 e5 e6
  · simp only [List.mem_cons, List.not_mem_nil, or_false] at hv
    omega
  · simp only [List.nodup_cons, List.mem_cons, List.not_mem_nil, or_false, not_or, not_false_iff, List.nodup_nil, and_true]
    exact ⟨⟨n1, n2, n3⟩, ⟨by omega, by omega⟩, by omega⟩
def bad7 (Q : List Nat) : Bool := clawS Q 7 || tripB Q 7
set_option maxRecDepth 100000 in
theorem legs_bad : (bad7 legs && (List.range 7).all fun a => (List.range 7).all fun b => a == b || bad7 (addE legs a b)) = true := by decide +kernel
/-- Three long legs, and perhaps an edge besides. -/
def Legs (Q : List Nat) : Prop := Q = legs ∨ ∃ a b, a < 7 ∧ b < 7 ∧ a ≠ b ∧ Q = addE legs a b
theorem Legs.ok {Q : List Nat} (hs : Legs Q) : GOk 7 Q := by
  rcases hs with rfl | ⟨a, b, ha, hb, hne, rfl⟩
  · exact legs_ok
  · exact legs_ok.addE ha hb hne
theorem Legs.bad {Q : List Nat} (hs : Legs Q) : (clawOf 7 (ints Q)).isSome = true ∨ ∃ a b c, a < 7 ∧ b < 7 ∧ c < 7 ∧ Trip Q 7 a b c := by
  have hk : bad7 Q = true := by
    have := legs_bad
    rw [Bool.and_eq_true] at this
    rcases hs with rfl | ⟨a, b, ha, hb, hne, rfl⟩
    · exact this.1
    · have h1 := List.all_eq_true.1 (List.all_eq_true.1 this.2 a (List.mem_range.2 ha)) b (List.mem_range.2 hb)
      rw [Bool.or_eq_true, beq_iff_eq] at h1
      exact h1.resolve_left hne
  rw [bad7, Bool.or_eq_true] at hk
  rcases hk with hk | hk
  · exact .inl (clawS_found hs.ok hk)
  · exact .inr (tripB_trip hk)
/-- What is drawn: small, or with three long legs. -/
def le6L (N : Int) (X : List Int) : Prop := X.length ≤ 6 ∨ N = 7 ∧ ∃ Q, X = ints Q ∧ Legs Q
theorem le6L_len {N : Int} {X : List Int} (h : le6L N X) : X.length ≤ 7 := by
  rcases h with h | ⟨_, Q, rfl, hs⟩
  · omega
  · rw [ints_len, hs.ok.len]; omega
end Go.Proofs.YthncdjcmlpiebaaGreat
namespace Go.Proofs.YthncdjcmlpiebaaGreat
open Go.RowKit
section
variable {P : Program} {ops : Array Oper} {md : Region.Mode} {w : World}
/-- Each operation behind number n waits for one before it, from n on. -/
def restB (md : Region.Mode) (ops : Array Oper) (n : Nat) : Bool := (List.range ops.size).all fun t => decide (t ≤ n) || (List.range t).any fun s => decide (n ≤ s) && Region.waitsFor md ops t s
theorem ready_waits {listed : Array Bool} {t s : Nat} (hr : t ∈ Region.ready md ops listed) (h : Region.waitsFor md ops t s = true) : listed.getD s false = true := by
  obtain ⟨_, ot, hot, hall⟩ := mem_ready.1 hr
  obtain ⟨o', ho', e, he, hb, hon⟩ := Region.waitsFor_spec h
  obtain rfl : o' = ot := Option.some.inj (ho'.symm.trans hot)
  rw [← hon]
  exact hall e he hb
theorem rest_waits {n : Nat} (hs : Region.sinkB md ops n = true) (hc : restB md ops n = true) {listed : Array Bool} (inv : HeadInv md ops n listed) :
    ∀ (d i : Nat), n - i = d → i < n → listed.getD i true = false → ∀ t, n ≤ t → t ∉ Region.ready md ops listed := by
  intro d
  induction d using Nat.strongRecOn with
  | _ d ih =>
    intro i hd hi hun t ht hr
    have htlt : t < ops.size := by obtain ⟨_, ot, hot, _⟩ := mem_ready.1 hr; exact (Array.getElem?_eq_some_iff.1 hot).1
    rcases Nat.lt_or_ge n t with htn | htn
    · have h1 := List.all_eq_true.1 hc t (List.mem_range.2 htlt)
      rw [Bool.or_eq_true, decide_eq_true_eq] at h1
      rcases h1 with h1 | h1
      · omega
      · obtain ⟨s, hsr, h2⟩ := List.any_eq_true.1 h1
        have hst := List.mem_range.1 hsr
        rw [Bool.and_eq_true, decide_eq_true_eq] at h2
        have h3 := ready_waits hr h2.2
        rw [getD_both (inv.tail s h2.1 (by omega))] at h3
        cases h3
    · obtain rfl : t = n := by omega
      obtain ⟨j, hj, h2⟩ := List.any_eq_true.1 (List.all_eq_true.1 hs i (List.mem_range.2 hi))
      have hjt := List.mem_range.1 hj
      rw [Bool.and_eq_true, decide_eq_true_eq] at h2
      rcases Nat.lt_or_ge j t with hlt | hge
      · rcases hl : listed.getD j false with _ | _
        · exact ih (t - j) (by omega) j rfl hlt (getD_in (by rw [inv.size]; omega) hl) t (Nat.le_refl _) hr
        · obtain ⟨oj, hoj, e, he, hb, hon⟩ := Region.waitsFor_spec h2.2
          have h3 := inv.closed j oj hoj hl e he hb
          rw [hon, getD_both hun] at h3
          cases h3
      · obtain rfl : j = t := by omega
        have h3 := ready_waits hr h2.2
        rw [getD_both hun] at h3
        cases h3
theorem head_first {n i : Nat} {oi : Oper} {v : Value} {L : Array Bool → Act → Prop} (hi : ops[i]? = some oi) (hsel : ∀ (j : Nat) (o : Oper) cs b, ops[j]? = some o → o.op ≠ .select cs b)
    (hT : ∀ listed, HeadInv md ops n listed → ∀ i, i < n → listed.getD i true = false → ∀ t, n ≤ t → t ∉ Region.ready md ops listed) (hin : i < n) (hdone : ∀ listed a, L listed a → ∀ j ∈ Region.ready md ops listed, n ≤ j) :
    ∀ (f : Nat) (listed : Array Bool) (a : Act), HeadInv md ops n listed →
      (∀ j oj, ops[j]? = some oj → j ≠ i → listed.getD j true = false → (∀ e ∈ oj.after, Region.binds md e = true → e.on ≠ i) → oi.apart ops oj = true) →
      i ∈ Region.ready md ops listed → YieldsAt P ops w oi v a →
      wpAnyL P md ops w n L f (listed.setIfInBounds i true) (a.put oi.dst v) → wpAnyL P md ops w n L (f + 1) listed a := by
  intro f
  induction f with
  | zero =>
    intro listed a inv _ hr hy H
    have hun := (mem_ready.1 hr).1
    refine ⟨fun h => (by rw [h] at hr; cases hr), fun j hj => ?_⟩
    have hjn : j < n := Nat.lt_of_not_le fun h => hT listed inv i hin hun j h hj
    by_cases hji : j = i
    · subst hji; exact ⟨hjn, hy.stOp hi H⟩
    · have := hdone _ _ H j (ready_mono hj hji)
      omega
  | succ f ih =>
    intro listed a inv hfree hr hy H
    have hun := (mem_ready.1 hr).1
    refine ⟨fun h => (by rw [h] at hr; cases hr), fun j hj => ?_⟩
    have hjn : j < n := Nat.lt_of_not_le fun h => hT listed inv i hin hun j h hj
    refine ⟨hjn, ?_⟩
    by_cases hji : j = i
    · subst hji; exact hy.stOp hi H
    · have h1 := (H.2 j (ready_mono hj hji)).2
      obtain ⟨hjun, oj, hoj, hall⟩ := mem_ready.1 hj
      have hnot : ∀ e ∈ oj.after, Region.binds md e = true → e.on ≠ i := fun e he hb heq => by
        have h1 := hall e he hb
        rw [heq, getD_both hun] at h1
        cases h1
      have h2 := stOp_put hoj (hfree j oj hoj hji hjun hnot) (fun cs b => hsel i oi cs b hi) (fun cs b => hsel j oj cs b hoj) hy h1
      refine stOp_mono (fun a' h3 => ih (listed.setIfInBounds j true) a' (inv.set hj hjn) (fun k ok hk hki hun2 hno => ?_) (ready_mono hr (Ne.symm hji)) h3.1 ?_) h2
      · refine hfree k ok hk hki ?_ hno
        by_cases hjk : j = k
        · subst hjk; exact hjun
        · rw [getD_set_ne true hjk] at hun2; exact hun2
      · rw [Array.setIfInBounds_comm _ _ hji]
        exact h3.2
/-- The first operations may come up one after another; behind them the listed ones are L0, and only others may come up. -/
def headB (md : Region.Mode) (ops : Array Oper) (L0 : Array Bool) : Nat → Nat → Array Bool → Bool
  | 0, k, listed => decide (listed = L0) && (Region.ready md ops listed).all fun j => decide (k ≤ j)
  | f + 1, k, listed => (Region.ready md ops listed).contains k && Region.free md ops listed k && headB md ops L0 f (k + 1) (listed.setIfInBounds k true)
theorem head_lex {n : Nat} {L0 : Array Bool} {Lq : Act → Prop} (hsel : Region.noSelect ops = true) (hs : Region.sinkB md ops n = true) (hc : restB md ops n = true) (hd : ∀ j ∈ Region.ready md ops L0, n ≤ j) :
    ∀ (l : List Oper) (k : Nat) (listed : Array Bool) (a : Act), (∀ j, j < l.length → l[j]? = ops[k + j]?) → k + l.length = n → HeadInv md ops n listed →
    headB md ops L0 l.length k listed = true → wpStill P ops w Lq l a → wpAnyL P md ops w n (fun listed' a' => listed' = L0 ∧ Lq a') l.length listed a
  | [], k, listed, a, _, _, _, hB, h => by
    simp only [List.length_nil, headB, Bool.and_eq_true, decide_eq_true_eq] at hB
    exact ⟨hB.1, h⟩
  | o :: l, k, listed, a, hl, hk, inv, hB, h => by
    have h0 : ops[k]? = some o := by simpa using (hl 0 (by simp)).symm
    simp only [List.length_cons, headB, Bool.and_eq_true] at hB
    obtain ⟨⟨hr, hf⟩, hB'⟩ := hB
    have hkn : k < n := by simp only [List.length_cons] at hk; omega
    have hr' : k ∈ Region.ready md ops listed := by simpa using hr
    have hst : stOp P ops w k (wpStill P ops w Lq l) a := by unfold stOp; simp only [h0]; exact h
    obtain ⟨v, hy, hK⟩ := yieldsAt_of_stOp h0 hst
    exact head_first h0 (Region.noSelect_spec hsel) (fun listed inv i hi hun => rest_waits hs hc inv _ i rfl hi hun) hkn (fun listed' a' hL => by rw [hL.1]; exact hd) l.length listed a inv (Region.free_spec h0 hf) hr' hy
      (head_lex hsel hs hc hd l (k + 1) _ _ (fun j hj => by have := hl (j + 1) (by simp; omega); simpa [Nat.add_assoc, Nat.add_comm 1 j] using this) (by simp only [List.length_cons] at hk; omega) (inv.set hr' hkn) hB' hK)
def stillAnyB (md : Region.Mode) (ops : Array Oper) (n : Nat) (L0 : Array Bool) : Bool :=
  Region.noSelect ops && decide (n < ops.size) && Region.sinkB md ops n && restB md ops n && headB md ops L0 n 0 (Array.replicate ops.size false) && (Region.ready md ops L0).all fun j => decide (n ≤ j)
theorem wp_region_still_any {id : Nat} {Q : Exit → Act → World → Prop} {a : Act} {l : List Oper} (n : Nat) (L0 : Array Bool) (hm : P.follows .mixedOrders = true) (hB : stillAnyB .any l.toArray n L0 = true)
    (h : wpStill P l.toArray w.drew (fun a' => wpAny P .any l.toArray Q (l.length - n) L0 a' w.drew) (l.take n) a) : (Code.region id l.toArray true).wp P Q a w := by
  simp only [stillAnyB, Bool.and_eq_true, decide_eq_true_eq] at hB
  obtain ⟨⟨⟨⟨⟨hsel, hn⟩, hs⟩, hc⟩, hlex⟩, hd⟩ := hB
  have hn' : n < l.length := by simpa using hn
  have htl : (l.take n).length = n := by simp; omega
  have hd' : ∀ j ∈ Region.ready .any l.toArray L0, n ≤ j := fun j hj => by simpa using List.all_eq_true.1 hd j hj
  have inv0 : HeadInv .any l.toArray n (Array.replicate l.toArray.size false) :=
    ⟨by simp, fun j oj _ hl => (by rw [getD_replicate_false] at hl; cases hl), fun t _ ht => getD_in (by simpa using ht) (getD_replicate_false _ _)⟩
  have H := head_lex (P := P) (md := .any) (w := w.drew) hsel hs hc hd' (l.take n) 0 _ a (fun j hj => by
    have hj' : j < n := by rw [htl] at hj; exact hj
    simp [hj']) (by simpa using htl) inv0 (by rw [htl]; exact hlex) h
  refine wp_region_any hm ?_
  have := wpAny_of_head (Q' := Q) (g := l.length - n) (fun listed a' hL => by rw [hL.1]; exact hL.2) _ _ _ H
  rw [htl] at this
  have e : l.toArray.size = n + (l.length - n) := by simp; omega
  rw [e]
  rw [e] at this
  exact this
end
end Go.Proofs.YthncdjcmlpiebaaGreat
