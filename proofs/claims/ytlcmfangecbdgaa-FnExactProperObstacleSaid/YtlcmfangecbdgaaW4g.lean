/- Walks of chapter 4: the first hole, the program's search. -/
import Derived.Test.YtlcmfangecbdgaaW4f
namespace Go.Proofs.Ytlcmfangecbdgaa
open Go.RowKit
theorem hHolds_is {A B : Option Addr} {bG n c m d : Nat} {Q o : List Nat} {w : World} {r : Bool} (hX : RI w A n (ints Q)) (hL : RI w B m (ints o)) (hn : n ≤ 1048576) (hm : m ≤ 1048576) (hmd : m ≤ d) (hG : Blk w bG 27 #[.int .i64 n, .slice A n c]) (hr : holdsH n Q o = r) :
    Calls Try.prog 97 #[.slice B m d, .pointer (some ⟨bG, 0, none⟩)] w fun e w' => e = .returned (.bool r) ∧ Below w.heap.size w w' := by
  have hyb := hG.two
  go_enter Try.func97, Try.ntmps97
  go_wp2_with fail
  refine (implIsHole_is hX hL (by omega) (by omega) hmd hr).mono ?_
  rintro e w1 ⟨rfl, hb1⟩
  have hU1 : Up w w1 := Up.then_ (by go_grown) hb1
  go_wp2
  go_ret
  exact ⟨rfl, hU1⟩
theorem implIsPath_is {N : Int} {A B : Option Addr} {n c m d : Nat} {X l : List Int} {w : World} {r : Bool} (hX : RI w A n X) (hL : RI w B m l) (hn : n ≤ 9223372036854775807) (hm : m ≤ 9223372036854775807) (hmd : m ≤ d) (hr : isPathL N X l = r) :
    Calls Try.prog 95 #[.agg #[.int .i64 N, .slice A n c], .slice B m d] w fun e w' => e = .returned (.bool r) ∧ Below w.heap.size w w' := by
  subst hr; exact implIsPath_any N A B n c m d X l w hX hL hn hm hmd
set_option maxRecDepth 100000 in
theorem hMay_any {A B : Option Addr} {bG b0 n c m s d : Nat} {Q o : List Nat} {w : World} (hX : RI w A n (ints Q)) (hL : RI w B s (ints o)) (hn : n ≤ 1048576) (hm : s ≤ 1048576) (hmd : s ≤ d) (hG : Blk w bG 27 #[.int .i64 n, .slice A n c]) (h0 : Blk w b0 3 #[.int .i64 m]) :
    Calls Try.prog 94 #[.slice B s d, .pointer (some ⟨b0, 0, none⟩), .pointer (some ⟨bG, 0, none⟩)] w fun e w' => e = .returned (.bool (mayH n Q m o)) ∧ Below w.heap.size w w' := by
  have hyb := hG.two
  have hlb := hG.lt
  have hy0 := h0.one
  have hl0 := h0.lt
  have hol : o.length = s := by rw [← hL.1, ints_len]
  by_cases hsm : s = m
  · have HR := Lib.hid (show mayH n Q m o = true by rw [mayH, hol, decide_eq_true hsm]; rfl)
    rw [HR.out]
    subst hsm
    clear HR hol
    go_enter Try.func94, Try.ntmps94
    go_wp2
    go_ret
    exact ⟨rfl, Below.refl _ _⟩
  · have HR := Lib.hid (show mayH n Q m o = isPathL n (ints Q) (ints o) by rw [mayH, hol, decide_eq_false hsm]; rfl)
    obtain ⟨p, hp⟩ : ∃ p, p = isPathL n (ints Q) (ints o) := ⟨_, rfl⟩
    rw [HR.out, ← hp]
    have Hp := Lib.hid hp.symm
    have hsm2 : ((s : Int) == (m : Int)) = false := by rw [beq_eq_false_iff_ne]; omega
    clear HR hol hp hsm
    go_enter Try.func94, Try.ntmps94
    go_wp2_with fail
    refine (implIsPath_is hX hL (by omega) (by omega) hmd Hp.out).mono ?_
    rintro e w1 ⟨rfl, hb1⟩
    have hU1 : Up w w1 := Up.then_ (by go_grown) hb1
    go_wp2
    go_ret
    exact ⟨rfl, hU1⟩
/-- The variables that the search captures. -/
def HBx (w : World) (A : Option Addr) (n m c bN bH bG bM bS bG2 b0 : Nat) : Prop :=
  (Blk w bN 3 #[.int .i64 m] ∧ Blk w bH 68 #[.func (.func 97) #[] #[.pointer (some ⟨bG2, 0, none⟩)]]) ∧ (Blk w bG 27 #[.int .i64 n, .slice A n c] ∧ Blk w bM 68 #[.func (.func 94) #[] #[.pointer (some ⟨b0, 0, none⟩), .pointer (some ⟨bG2, 0, none⟩)]]) ∧
  Blk w bS 49 #[.func (.func 106) #[] #[.pointer (some ⟨bN, 0, none⟩), .pointer (some ⟨bH, 0, none⟩), .pointer (some ⟨bG, 0, none⟩), .pointer (some ⟨bM, 0, none⟩), .pointer (some ⟨bS, 0, none⟩)]] ∧ Blk w bG2 27 #[.int .i64 n, .slice A n c] ∧ Blk w b0 3 #[.int .i64 m]
theorem HBx.up {w w' : World} {A : Option Addr} {n m c bN bH bG bM bS bG2 b0 : Nat} (h : HBx w A n m c bN bH bG bM bS bG2 b0) (hb : Below w.heap.size w w') : HBx w' A n m c bN bH bG bM bS bG2 b0 :=
  ⟨⟨h.1.1.up hb, h.1.2.up hb⟩, ⟨h.2.1.1.up hb, h.2.1.2.up hb⟩, h.2.2.1.up hb, h.2.2.2.1.up hb, h.2.2.2.2.up hb⟩
theorem HBx.cells {w : World} {A : Option Addr} {n m c bN bH bG bM bS bG2 b0 : Nat} (h : HBx w A n m c bN bH bG bM bS bG2 b0) :
    w.cell? ⟨bN, 0, none⟩ = some (.int .i64 m) ∧ w.cell? ⟨bH, 0, none⟩ = some (.func (.func 97) #[] #[.pointer (some ⟨bG2, 0, none⟩)]) ∧ w.cell? ⟨bG, 0, none⟩ = some (.int .i64 n) ∧ w.cell? ⟨bG, 1, none⟩ = some (.slice A n c) ∧ w.cell? ⟨bM, 0, none⟩ = some (.func (.func 94) #[] #[.pointer (some ⟨b0, 0, none⟩), .pointer (some ⟨bG2, 0, none⟩)]) ∧
    w.cell? ⟨bS, 0, none⟩ = some (.func (.func 106) #[] #[.pointer (some ⟨bN, 0, none⟩), .pointer (some ⟨bH, 0, none⟩), .pointer (some ⟨bG, 0, none⟩), .pointer (some ⟨bM, 0, none⟩), .pointer (some ⟨bS, 0, none⟩)]) :=
  ⟨h.1.1.one, h.1.2.one, h.2.1.1.two.1, h.2.1.1.two.2, h.2.1.2.one, h.2.2.1.one⟩
set_option maxRecDepth 100000 in
set_option maxHeartbeats 4000000 in
theorem HSearch_any (n m ca bN bH bG bM bS bG2 b0 : Nat) (A : Option Addr) (Q : List Nat) (h : GOk n Q) (hm0 : 0 < m) (hm7 : m ≤ 7) : ∀ (f : Nat) (l : List Nat) (B : Option Addr) (c : Nat) (w : World), l.length + f = m → (∀ v ∈ l, v < n) → RI w B l.length (ints l) → (B = none → c = 0) → l.length ≤ c → c ≤ 9223372036854775807 → RI w A n (ints Q) → HBx w A n m ca bN bH bG bM bS bG2 b0 →
    Calls Try.prog 106 #[.slice B l.length c, .pointer (some ⟨bN, 0, none⟩), .pointer (some ⟨bH, 0, none⟩), .pointer (some ⟨bG, 0, none⟩), .pointer (some ⟨bM, 0, none⟩), .pointer (some ⟨bS, 0, none⟩)] w (GivesN4 (srch (mayH n Q m) (holdsH n Q) n f l) w) := by
  have hn7 := h.le
  have hn1 := h.pos
  intro f
  induction f with
  | zero =>
    intro l B c w hf hl hL hB hlc hc hX hbx
    have hlen : l.length = m := by omega
    have heq : ((l.length : Int) == (m : Int)) = true := by rw [beq_iff_eq]; omega
    have hcs := hbx.cells
    obtain ⟨bd, rfl, _, _⟩ := hL.addr (by omega)
    have Hlen := Lib.hid hlen
    have Hf := Lib.hid hf
    have h0 : 0 < l.length := by omega
    have h1 : l.length ≤ 1048576 := by omega
    clear hlen hf
    rcases Bool.eq_false_or_eq_true ((holdsH n Q) l) with e1 | e1
    · have HZ := Lib.hid (show srch (mayH n Q m) (holdsH n Q) n 0 l = some l by rw [srch, e1]; rfl)
      have E1 := Lib.hid e1
      clear e1
      go_enter Try.func106, Try.ntmps106
      go_wp2_with fail
      refine (hHolds_is hX hL (by omega) (by omega) hlc hbx.2.2.2.1 E1.out).mono ?_
      rintro e w1 ⟨rfl, hb1⟩
      go_wp2_with fail
      refine (slClone_any bd l.length c (ints l) _ (hL.up hb1) h0 h1).mono ?_
      rintro e w2 ⟨g, c1, rfl, hown, hb2⟩
      replace hown := hown.more (base' := w.heap.size) hb1.size
      go_wp2
      go_ret
      rw [HZ.out]
      exact ⟨⟨g, c1, rfl, hown⟩, Up.then_ hb1 hb2⟩
    · have HZ := Lib.hid (show srch (mayH n Q m) (holdsH n Q) n 0 l = none by rw [srch, e1]; rfl)
      have E1 := Lib.hid e1
      clear e1
      go_enter Try.func106, Try.ntmps106
      go_wp2_with fail
      refine (hHolds_is hX hL (by omega) (by omega) hlc hbx.2.2.2.1 E1.out).mono ?_
      rintro e w1 ⟨rfl, hb1⟩
      go_wp2
      go_ret
      rw [HZ.out]
      exact ⟨rfl, hb1⟩
  | succ f ih =>
    intro l B c w hf hl hL hB hlc hc hX hbx
    have hne : ((l.length : Int) == (m : Int)) = false := by rw [beq_eq_false_iff_ne]; omega
    have Hl := Lib.hid hl
    have Ih := Lib.hid ih
    have HS := Lib.hid (srch_step (mayH n Q m) (holdsH n Q) n f l)
    have hcs := hbx.cells
    clear hl ih
    go_enter Try.func106, Try.ntmps106
    go_wp2_with fail
    go_loopw [22] (fun i wr => ∃ k : Nat, k ≤ n ∧ i = .int .i64 k ∧ Below w.heap.size w wr ∧ Hid (srchK (mayH n Q m) (holdsH n Q) n f l k = none)) (fun i _ => n - (intOf i).toNat)
    case atStart => exact ⟨0, Nat.zero_le _, rfl, Below.refl _ _, srchK_zero _ _ _ _ _⟩
    case round =>
      clear hcs
      obtain ⟨k, hk, rfl, hb, hno⟩ := hrel
      have hbxr := hbx.up hb
      have hcs := hbxr.cells
      by_cases hkt : k < n
      · have hsz := hb.size
        have hLr := hL.up hb
        have hcell := (Blk.new wr 3 #[.int .i64 (k : Int)]).one
        have hB0 : B = none → l.length = 0 := fun e => by have := hB e; omega
        have HB0 := Lib.hid hB0
        clear hB0
        have hnq := neq_nil
        go_wp2_with (at_builtin; refine wpList_more rfl (.tmp 30) (.tmp 32) rfl (k : Int) rfl HB0.out (hLr.alloc _) ⟨wr.heap.size, 0, none⟩ rfl hcell (by omega) ?_; intro A1 c1 w1 hown1 hU1a)
        have hU1 : Up wr w1 := Up.then_ (by go_grown) hU1a
        have hx1 : OwnI w1 wr.heap.size A1 (l.length + 1) c1 (ints (l ++ [k])) := (hown1.more (by simp)).cast rfl (ints_app l k).symm
        have HLen := Lib.hid (show (l ++ [k]).length = l.length + 1 from push_len.symm)
        obtain ⟨gx, rfl⟩ := hx1.form (by omega)
        clear hown1 hcell hcs
        have hw1 := Up.then_ hb hU1
        replace hLr := hLr.up hU1
        replace hbxr := hbxr.up hU1
        have hcs := hbxr.cells
        rcases Bool.eq_false_or_eq_true (decide (k ∈ l)) with e1 | e1
        · have HA := Lib.hid (srchAt_off (may := mayH n Q m) (holds := holdsH n Q) (N := n) (f := f) (v := k) (l := l) (by rw [nextOk, e1]; rfl))
          rw [← dec_mem] at e1
          refine (slContains_is hLr (by omega) e1).mono ?_
          clear e1
          rintro e w3 ⟨rfl, rfl⟩
          go_wp2
          go_roundw
          case rel => exact ⟨k + 1, by omega, by go_num, hw1, srchK_none hno.out HA.out⟩
          case measure => simp [intOf]; omega
        · have hlv : ∀ v ∈ l ++ [k], v < n := fun v hv => by
            rcases List.mem_append.1 hv with hv | hv
            · exact Hl.out v hv
            · obtain rfl : v = k := by simpa using hv
              exact hkt
          have Hlv := Lib.hid hlv
          clear hlv
          have E1 := Lib.hid e1
          rw [← dec_mem] at e1
          refine (slContains_is hLr (by omega) e1).mono ?_
          clear e1
          rintro e w3 ⟨rfl, rfl⟩
          have hcap := hx1.cap
          go_wp2_with fail
          refine (hMay_any (hX.up hw1) hx1.ri (by omega) (by omega) hcap.1 hbxr.2.2.2.1 hbxr.2.2.2.2).mono ?_
          rintro e w4 ⟨rfl, hb4⟩
          have hU4 : Up w1 w4 := Up.then_ (by go_grown) hb4
          replace hx1 := hx1.up hU4
          replace hbxr := hbxr.up hU4
          have hw4 := Up.then_ hw1 hU4
          clear hcs
          have hcs := hbxr.cells
          rcases Bool.eq_false_or_eq_true ((mayH n Q m) (l ++ [k])) with e2 | e2
          · have HA := Lib.hid (srchAt_on (holds := holdsH n Q) (N := n) (f := f) (show nextOk (mayH n Q m) l k = true by rw [nextOk, E1.out, e2]; rfl))
            rw [e2]
            clear e2
            have hsz4 := hw4.size
            have hih := Ih.out (l ++ [k]) (some ⟨gx, 0, none⟩) c1 w4 (by rw [HLen.out]; omega) Hlv.out (by rw [HLen.out]; exact hx1.ri) (fun e => by cases e) (by rw [HLen.out]; exact hcap.1) hcap.2 (hX.up hw4) hbxr
            rw [HLen.out] at hih
            go_wp2_with fail
            refine hih.mono ?_
            clear hih
            rintro e w5 ⟨hg5, hb5⟩
            have hw5 := Up.then_ hw4 hb5
            rcases hsr : srch (mayH n Q m) (holdsH n Q) n f (l ++ [k]) with _ | r
            · have HK := Lib.hid (srchK_none hno.out (HA.out.trans hsr))
              rw [hsr] at hg5
              clear hsr
              obtain rfl := hg5
              go_wp2
              go_roundw
              case rel => exact ⟨k + 1, by omega, by go_num, hw5, HK.out⟩
              case measure => simp [intOf]; omega
            · have HK := Lib.hid (srchK_some hno.out (HA.out.trans hsr) hkt)
              rw [hsr] at hg5
              clear hsr
              obtain ⟨g5, c5, rfl, hown5⟩ := hg5
              replace hown5 := hown5.more (base' := w.heap.size) hw4.size
              go_wp2
              go_ret
              rw [HK.out]
              exact ⟨⟨g5, c5, rfl, hown5⟩, hw5⟩
          · have HA := Lib.hid (srchAt_off (may := mayH n Q m) (holds := holdsH n Q) (N := n) (f := f) (v := k) (l := l) (by rw [nextOk, E1.out, e2]; rfl))
            rw [e2]
            clear e2
            go_wp2
            go_roundw
            case rel => exact ⟨k + 1, by omega, by go_num, hw4, srchK_none hno.out HA.out⟩
            case measure => simp [intOf]; omega
      · obtain rfl : k = n := by omega
        have HN := Lib.hid (HS.out.trans hno.out)
        go_wp2
        go_ret
        rw [HN.out]
        exact ⟨rfl, hb⟩
def HAt (N : Int) (X : List Int) (m : Nat) : Option (List Nat) := if isGraph N X then srch (mayH N.toNat (X.map Int.toNat) m) (holdsH N.toNat (X.map Int.toNat)) N.toNat m [] else none
theorem HAt_no {N : Int} {X : List Int} {m : Nat} (h : isGraph N X = false) : HAt N X m = none := by rw [HAt, h]; rfl
theorem HAt_ok {n m : Nat} {Q : List Nat} (h : GOk n Q) : HAt n (ints Q) m = srch (mayH n Q m) (holdsH n Q) n m [] := by rw [HAt, if_pos h.is, nats_ints4, Int.toNat_natCast]
set_option maxRecDepth 100000 in
set_option maxHeartbeats 2000000 in
theorem HFirst_any (N : Int) (A : Option Addr) (n m c bG2 b0 : Nat) (X : List Int) (w : World) (hX : RI w A n X) (hn : n ≤ 9223372036854775807) (hG : Blk w bG2 27 #[.int .i64 N, .slice A n c]) (hM : Blk w b0 3 #[.int .i64 m]) (hm0 : 0 < m) (hm7 : m ≤ 7) :
    Calls Try.prog 96 #[.agg #[.int .i64 N, .slice A n c], .int .i64 m, .func (.func 94) #[] #[.pointer (some ⟨b0, 0, none⟩), .pointer (some ⟨bG2, 0, none⟩)], .func (.func 97) #[] #[.pointer (some ⟨bG2, 0, none⟩)]] w (GivesIB (optL (HAt N X m)) (HAt N X m).isSome w) := by
  have hnq := neq_nil
  rcases isGraph_cases N X with hg | ⟨k, Q, rfl, rfl, h⟩
  · have Hg := Lib.hid hg
    rw [HAt_no hg]
    clear hg
    go_enter Try.func96, Try.ntmps96
    go_wp2_with fail
    refine (implIsGraph_is (hX.up (by go_grown)) hn Hg.out).mono ?_
    rintro e w1 ⟨rfl, hb1⟩
    have hU1 : Up w w1 := Up.then_ (by go_grown) hb1
    go_wp2
    go_ret2
    exact givesIB_none (OwnI.nil_ _ _) (Nat.le_refl _) hU1
  · obtain rfl : n = k := by rw [← hX.1, ints_len, h.len]
    rw [HAt_ok h]
    go_enter Try.func96, Try.ntmps96
    go_wp2_with fail
    obtain ⟨W0, hW0⟩ : ∃ W0, W0 = (((((w.alloc (.cells #[.int .i64 n, .slice A n c] 27)).alloc (.cells #[.int .i64 m] 3)).alloc (.cells #[.func (.func 94) #[] #[.pointer (some ⟨b0, 0, none⟩), .pointer (some ⟨bG2, 0, none⟩)]] 68)).alloc (.cells #[.func (.func 97) #[] #[.pointer (some ⟨bG2, 0, none⟩)]] 68)).alloc (.cells #[.func (.func 106) #[] #[.pointer (some ⟨w.heap.size + 1, 0, none⟩), .pointer (some ⟨w.heap.size + 1 + 1 + 1, 0, none⟩), .pointer (some ⟨w.heap.size, 0, none⟩), .pointer (some ⟨w.heap.size + 1 + 1, 0, none⟩), .pointer (some ⟨w.heap.size + 1 + 1 + 1 + 1, 0, none⟩)]] 49)) := ⟨_, rfl⟩
    have hbG : Blk W0 (w.heap.size) 27 #[.int .i64 n, .slice A n c] := by rw [hW0]; exact (Blk.new_at (w := w) (t := 27) (cs := #[.int .i64 n, .slice A n c]) (g := w.heap.size) (by simp)).up (by go_grown)
    have hbN : Blk W0 (w.heap.size + 1) 3 #[.int .i64 m] := by rw [hW0]; exact (Blk.new_at (w := (w.alloc (.cells #[.int .i64 n, .slice A n c] 27))) (t := 3) (cs := #[.int .i64 m]) (g := w.heap.size + 1) (by simp)).up (by go_grown)
    have hbM : Blk W0 (w.heap.size + 1 + 1) 68 #[.func (.func 94) #[] #[.pointer (some ⟨b0, 0, none⟩), .pointer (some ⟨bG2, 0, none⟩)]] := by rw [hW0]; exact (Blk.new_at (w := ((w.alloc (.cells #[.int .i64 n, .slice A n c] 27)).alloc (.cells #[.int .i64 m] 3))) (t := 68) (cs := #[.func (.func 94) #[] #[.pointer (some ⟨b0, 0, none⟩), .pointer (some ⟨bG2, 0, none⟩)]]) (g := w.heap.size + 1 + 1) (by simp)).up (by go_grown)
    have hbH : Blk W0 (w.heap.size + 1 + 1 + 1) 68 #[.func (.func 97) #[] #[.pointer (some ⟨bG2, 0, none⟩)]] := by rw [hW0]; exact (Blk.new_at (w := (((w.alloc (.cells #[.int .i64 n, .slice A n c] 27)).alloc (.cells #[.int .i64 m] 3)).alloc (.cells #[.func (.func 94) #[] #[.pointer (some ⟨b0, 0, none⟩), .pointer (some ⟨bG2, 0, none⟩)]] 68))) (t := 68) (cs := #[.func (.func 97) #[] #[.pointer (some ⟨bG2, 0, none⟩)]]) (g := w.heap.size + 1 + 1 + 1) (by simp)).up (by go_grown)
    have hbS : Blk W0 (w.heap.size + 1 + 1 + 1 + 1) 49 #[.func (.func 106) #[] #[.pointer (some ⟨w.heap.size + 1, 0, none⟩), .pointer (some ⟨w.heap.size + 1 + 1 + 1, 0, none⟩), .pointer (some ⟨w.heap.size, 0, none⟩), .pointer (some ⟨w.heap.size + 1 + 1, 0, none⟩), .pointer (some ⟨w.heap.size + 1 + 1 + 1 + 1, 0, none⟩)]] := by rw [hW0]; exact (Blk.new_at (w := ((((w.alloc (.cells #[.int .i64 n, .slice A n c] 27)).alloc (.cells #[.int .i64 m] 3)).alloc (.cells #[.func (.func 94) #[] #[.pointer (some ⟨b0, 0, none⟩), .pointer (some ⟨bG2, 0, none⟩)]] 68)).alloc (.cells #[.func (.func 97) #[] #[.pointer (some ⟨bG2, 0, none⟩)]] 68))) (t := 49) (cs := #[.func (.func 106) #[] #[.pointer (some ⟨w.heap.size + 1, 0, none⟩), .pointer (some ⟨w.heap.size + 1 + 1 + 1, 0, none⟩), .pointer (some ⟨w.heap.size, 0, none⟩), .pointer (some ⟨w.heap.size + 1 + 1, 0, none⟩), .pointer (some ⟨w.heap.size + 1 + 1 + 1 + 1, 0, none⟩)]]) (g := w.heap.size + 1 + 1 + 1 + 1) (by simp)).up (by go_grown)
    have hU0 : Up w W0 := by rw [hW0]; go_grown
    rw [← hW0]
    clear hW0
    have hbx : HBx W0 A n m c (w.heap.size + 1) (w.heap.size + 1 + 1 + 1) w.heap.size (w.heap.size + 1 + 1) (w.heap.size + 1 + 1 + 1 + 1) bG2 b0 := ⟨⟨hbN, hbH⟩, ⟨hbG, hbM⟩, hbS, hG.up hU0, hM.up hU0⟩
    clear hbG hbN hbM hbH hbS
    refine (implIsGraph_is (hX.up hU0) hn h.is).mono ?_
    rintro e w1 ⟨rfl, hb1⟩
    have hU1 := Up.then_ hU0 hb1
    replace hbx := hbx.up hb1
    have hcs := hbx.cells
    go_wp2_with fail
    refine (HSearch_any n m c _ _ _ _ _ bG2 b0 A Q h hm0 hm7 m [] none 0 _ (by simp) (by simp) RI.nil_ (fun _ => rfl) (by simp) (by omega) (hX.up hU1) hbx).mono ?_
    rintro e w2 ⟨hg2, hb2⟩
    have hU2 := Up.then_ hU1 hb2
    rcases hsr : srch (mayH n Q m) (holdsH n Q) n m [] with _ | r
    · rw [hsr] at hg2
      have HSr := Lib.hid hsr
      clear hsr
      obtain rfl := hg2
      go_wp2
      go_ret2
      rw [HSr.out]
      exact givesIB_none (OwnI.nil_ _ _) (Nat.le_refl _) hU2
    · rw [hsr] at hg2
      have HSr := Lib.hid hsr
      clear hsr
      obtain ⟨g5, c5, rfl, hown5⟩ := hg2
      go_wp2
      go_ret2
      rw [HSr.out]
      exact givesIB_some hown5 hU1.size hU2
end Go.Proofs.Ytlcmfangecbdgaa
