/- Walks of chapter 12: the first umbrella order, the program's search. -/
import Derived.Test.YtfodbgogeclifaaW12s
import Derived.Test.YtfodbgogeclifaaSlc
import Derived.Laws.EntriesVeiled
namespace Go.Proofs.Ytfodbgogeclifaa
open Go.RowKit
theorem always_any (v : Value) (w : World) : Calls Try.prog 88 #[v] w fun e w' => e = .returned (.bool true) ∧ w = w' := by
  go_enter Try.func88, Try.ntmps88
  go_wp2
  go_ret
  exact ⟨rfl, rfl⟩
theorem umbMay_any (A : Option Addr) (bd : Addr) (bG n c m d : Nat) (Q o : List Nat) (w : World) (hX : RI w A n (ints Q)) (hL : RI w (some bd) m (ints o)) (h : GOk n Q) (ho : ∀ v ∈ o, v < n) (hmd : m ≤ d) (hm : m ≤ 1048576) (hd : d ≤ 9223372036854775807) (hG : Blk w bG 45 #[.int .i64 n, .slice A n c]) :
    Calls Try.prog 87 #[.slice (some bd) m d, .pointer (some ⟨bG, 0, none⟩)] w fun e w' => e = .returned (.bool (umb Q o)) ∧ Below w.heap.size w w' := by
  have hyb := hG.two
  go_enter Try.func87, Try.ntmps87
  go_wp2_with fail
  refine (implUmb_any A bd n c m d Q o _ hX hL h ho hmd hm hd).mono ?_
  rintro e w1 ⟨rfl, hb1⟩
  have hU1 : Up w w1 := Up.then_ (by go_grown) hb1
  go_wp2
  go_ret
  exact ⟨rfl, hU1⟩
/-- The variables that the search captures. -/
def UmbBx (w : World) (A : Option Addr) (n c bN bH bG bM bS bG2 : Nat) : Prop :=
  (Blk w bN 3 #[.int .i64 n] ∧ Blk w bH 83 #[.func (.func 88) #[] #[]]) ∧ (Blk w bG 45 #[.int .i64 n, .slice A n c] ∧ Blk w bM 83 #[.func (.func 87) #[] #[.pointer (some ⟨bG2, 0, none⟩)]]) ∧
  Blk w bS 27 #[.func (.func 106) #[] #[.pointer (some ⟨bN, 0, none⟩), .pointer (some ⟨bH, 0, none⟩), .pointer (some ⟨bG, 0, none⟩), .pointer (some ⟨bM, 0, none⟩), .pointer (some ⟨bS, 0, none⟩)]] ∧ Blk w bG2 45 #[.int .i64 n, .slice A n c]
theorem UmbBx.up {w w' : World} {A : Option Addr} {n c bN bH bG bM bS bG2 : Nat} (h : UmbBx w A n c bN bH bG bM bS bG2) (hb : Below w.heap.size w w') : UmbBx w' A n c bN bH bG bM bS bG2 :=
  ⟨⟨h.1.1.up hb, h.1.2.up hb⟩, ⟨h.2.1.1.up hb, h.2.1.2.up hb⟩, h.2.2.1.up hb, h.2.2.2.up hb⟩
theorem UmbBx.cells {w : World} {A : Option Addr} {n c bN bH bG bM bS bG2 : Nat} (h : UmbBx w A n c bN bH bG bM bS bG2) :
    w.cell? ⟨bN, 0, none⟩ = some (.int .i64 n) ∧ w.cell? ⟨bH, 0, none⟩ = some (.func (.func 88) #[] #[]) ∧ w.cell? ⟨bG, 0, none⟩ = some (.int .i64 n) ∧ w.cell? ⟨bG, 1, none⟩ = some (.slice A n c) ∧ w.cell? ⟨bM, 0, none⟩ = some (.func (.func 87) #[] #[.pointer (some ⟨bG2, 0, none⟩)]) ∧
    w.cell? ⟨bS, 0, none⟩ = some (.func (.func 106) #[] #[.pointer (some ⟨bN, 0, none⟩), .pointer (some ⟨bH, 0, none⟩), .pointer (some ⟨bG, 0, none⟩), .pointer (some ⟨bM, 0, none⟩), .pointer (some ⟨bS, 0, none⟩)]) :=
  ⟨h.1.1.one, h.1.2.one, h.2.1.1.two.1, h.2.1.1.two.2, h.2.1.2.one, h.2.2.1.one⟩
/-- What the program's search gives: a new row, or nil. -/
def GivesN (r : Option (List Nat)) (w : World) (e : Ending) (w' : World) : Prop :=
  (match r with
   | some q => ∃ g c, e = .returned (.slice (some ⟨g, 0, none⟩) q.length c) ∧ OwnI w' w.heap.size (some ⟨g, 0, none⟩) q.length c (ints q)
   | none => e = .returned (.slice none 0 0)) ∧ Below w.heap.size w w'
set_option maxRecDepth 100000 in
set_option maxHeartbeats 4000000 in
theorem umbSearch_any (n ca bN bH bG bM bS bG2 : Nat) (A : Option Addr) (Q : List Nat) (h : GOk n Q) : ∀ (f : Nat) (l : List Nat) (B : Option Addr) (c : Nat) (w : World), l.length + f = n → (∀ v ∈ l, v < n) → RI w B l.length (ints l) → (B = none → c = 0) → l.length ≤ c → c ≤ 9223372036854775807 → RI w A n (ints Q) → UmbBx w A n ca bN bH bG bM bS bG2 →
    Calls Try.prog 106 #[.slice B l.length c, .pointer (some ⟨bN, 0, none⟩), .pointer (some ⟨bH, 0, none⟩), .pointer (some ⟨bG, 0, none⟩), .pointer (some ⟨bM, 0, none⟩), .pointer (some ⟨bS, 0, none⟩)] w (GivesN (srch (umb Q) yes n f l) w) := by
  have hn7 := h.le
  have hn1 := h.pos
  intro f
  induction f with
  | zero =>
    intro l B c w hf hl hL hB hlc hc hX hbx
    have hlen : l.length = n := by omega
    have heq : ((l.length : Int) == (n : Int)) = true := by rw [beq_iff_eq]; omega
    have hcs := hbx.cells
    obtain ⟨bd, rfl, _, _⟩ := hL.addr (by omega)
    have Hlen := Lib.hid hlen
    have Hf := Lib.hid hf
    have h0 : 0 < l.length := by omega
    have h1 : l.length ≤ 1048576 := by omega
    clear hlen hf
    go_enter Try.func106, Try.ntmps106
    go_wp2_with fail
    refine (always_any _ _).mono ?_
    rintro e w1 ⟨rfl, rfl⟩
    go_wp2_with fail
    refine (slClone_any bd l.length c (ints l) _ hL h0 h1).mono ?_
    rintro e w1 ⟨g, c1, rfl, hown, hb1⟩
    go_wp2
    go_ret
    exact ⟨⟨g, c1, rfl, hown⟩, hb1⟩
  | succ f ih =>
    intro l B c w hf hl hL hB hlc hc hX hbx
    have hne : ((l.length : Int) == (n : Int)) = false := by rw [beq_eq_false_iff_ne]; omega
    have Hl := Lib.hid hl
    have Ih := Lib.hid ih
    have HS := Lib.hid (srch_step (umb Q) yes n f l)
    have hcs := hbx.cells
    clear hl ih
    go_enter Try.func106, Try.ntmps106
    go_wp2_with fail
    go_loopw [22] (fun i wr => ∃ k : Nat, k ≤ n ∧ i = .int .i64 k ∧ Below w.heap.size w wr ∧ Hid (srchK (umb Q) yes n f l k = none)) (fun i _ => n - (intOf i).toNat)
    case atStart => exact ⟨0, Nat.zero_le _, rfl, Below.refl _ _, srchK_zero _ _ _ _ _⟩
    case round =>
      clear hcs
      obtain ⟨k, hk, rfl, hb, hno⟩ := hrel
      have hbxr := hbx.up hb
      have hcs := hbxr.cells
      by_cases hkt : k < n
      · have hsz := hb.size
        have hLr := hL.up hb
        have hcell := (Blk.new wr 3 #[.int .i64 (k : Int)]).one
        have hB0 : B = none → l.length = 0 := fun e => by have := hB e; omega
        have HB0 := Lib.hid hB0
        clear hB0
        have hnq := neq_nil
        go_wp2_with (at_builtin; refine wpList_more rfl (.tmp 30) (.tmp 32) rfl (k : Int) rfl HB0.out (hLr.alloc _) ⟨wr.heap.size, 0, none⟩ rfl hcell (by omega) ?_; intro A1 c1 w1 hown1 hU1a)
        have hU1 : Up wr w1 := Up.then_ (by go_grown) hU1a
        have hx1 : OwnI w1 wr.heap.size A1 (l.length + 1) c1 (ints (l ++ [k])) := (hown1.more (by simp)).cast rfl (ints_app l k).symm
        have HLen := Lib.hid (show (l ++ [k]).length = l.length + 1 from push_len.symm)
        obtain ⟨gx, rfl⟩ := hx1.form (by omega)
        clear hown1 hcell hcs
        have hw1 := Up.then_ hb hU1
        replace hLr := hLr.up hU1
        replace hbxr := hbxr.up hU1
        have hcs := hbxr.cells
        rcases Bool.eq_false_or_eq_true (decide (k ∈ l)) with e1 | e1
        · have HA := Lib.hid (srchAt_off (may := umb Q) (holds := yes) (N := n) (f := f) (v := k) (l := l) (by rw [nextOk, e1]; rfl))
          rw [← dec_mem] at e1
          refine (slContains_is hLr (by omega) e1).mono ?_
          clear e1
          rintro e w3 ⟨rfl, rfl⟩
          go_wp2
          go_roundw
          case rel => exact ⟨k + 1, by omega, by go_num, hw1, srchK_none hno.out HA.out⟩
          case measure => simp [intOf]; omega
        · have hlv : ∀ v ∈ l ++ [k], v < n := fun v hv => by
            rcases List.mem_append.1 hv with hv | hv
            · exact Hl.out v hv
            · obtain rfl : v = k := by simpa using hv
              exact hkt
          have Hlv := Lib.hid hlv
          clear hlv
          have E1 := Lib.hid e1
          rw [← dec_mem] at e1
          refine (slContains_is hLr (by omega) e1).mono ?_
          clear e1
          rintro e w3 ⟨rfl, rfl⟩
          have hcap := hx1.cap
          go_wp2_with fail
          refine (umbMay_any A ⟨gx, 0, none⟩ bG2 n ca (l.length + 1) c1 Q (l ++ [k]) _ (hX.up hw1) hx1.ri h Hlv.out hcap.1 (by omega) hcap.2 hbxr.2.2.2).mono ?_
          rintro e w4 ⟨rfl, hb4⟩
          have hU4 : Up w1 w4 := Up.then_ (by go_grown) hb4
          replace hx1 := hx1.up hU4
          replace hbxr := hbxr.up hU4
          have hw4 := Up.then_ hw1 hU4
          clear hcs
          have hcs := hbxr.cells
          rcases Bool.eq_false_or_eq_true (umb Q (l ++ [k])) with e2 | e2
          · have HA := Lib.hid (srchAt_on (holds := yes) (N := n) (f := f) (show nextOk (umb Q) l k = true by rw [nextOk, E1.out, e2]; rfl))
            rw [e2]
            clear e2
            have hsz4 := hw4.size
            have hih := Ih.out (l ++ [k]) (some ⟨gx, 0, none⟩) c1 w4 (by rw [HLen.out]; omega) Hlv.out (by rw [HLen.out]; exact hx1.ri) (fun e => by cases e) (by rw [HLen.out]; exact hcap.1) hcap.2 (hX.up hw4) hbxr
            rw [HLen.out] at hih
            go_wp2_with fail
            refine hih.mono ?_
            clear hih
            rintro e w5 ⟨hg5, hb5⟩
            have hw5 := Up.then_ hw4 hb5
            rcases hsr : srch (umb Q) yes n f (l ++ [k]) with _ | r
            · have HK := Lib.hid (srchK_none hno.out (HA.out.trans hsr))
              rw [hsr] at hg5
              clear hsr
              obtain rfl := hg5
              go_wp2
              go_roundw
              case rel => exact ⟨k + 1, by omega, by go_num, hw5, HK.out⟩
              case measure => simp [intOf]; omega
            · have HK := Lib.hid (srchK_some hno.out (HA.out.trans hsr) hkt)
              rw [hsr] at hg5
              clear hsr
              obtain ⟨g5, c5, rfl, hown5⟩ := hg5
              replace hown5 := hown5.more (base' := w.heap.size) hw4.size
              go_wp2
              go_ret
              rw [HK.out]
              exact ⟨⟨g5, c5, rfl, hown5⟩, hw5⟩
          · have HA := Lib.hid (srchAt_off (may := umb Q) (holds := yes) (N := n) (f := f) (v := k) (l := l) (by rw [nextOk, E1.out, e2]; rfl))
            rw [e2]
            clear e2
            go_wp2
            go_roundw
            case rel => exact ⟨k + 1, by omega, by go_num, hw4, srchK_none hno.out HA.out⟩
            case measure => simp [intOf]; omega
      · obtain rfl : k = n := by omega
        have HN := Lib.hid (HS.out.trans hno.out)
        go_wp2
        go_ret
        rw [HN.out]
        exact ⟨rfl, hb⟩
/-- The first umbrella order, whatever the arguments. -/
def umbOf (N : Int) (X : List Int) : Option (List Nat) := if isGraph N X then srch (umb (X.map Int.toNat)) yes N.toNat N.toNat [] else none
theorem umbOf_no {N : Int} {X : List Int} (h : isGraph N X = false) : umbOf N X = none := by rw [umbOf, h]; rfl
theorem umbOf_ok {n : Nat} {Q : List Nat} (h : GOk n Q) : umbOf n (ints Q) = srch (umb Q) yes n n [] := by rw [umbOf, if_pos h.is, nats_ints4, Int.toNat_natCast]
theorem givesIB_some {q : List Nat} {w w' : World} {A : Option Addr} {c base : Nat} (h : OwnI w' base A q.length c (ints q)) (hbase : w.heap.size ≤ base) (hb : Below w.heap.size w w') : GivesIB (ints q) true w (.returned (.tuple #[.slice A q.length c, .bool true])) w' := by
  have e := ints_len q
  exact ⟨A, c, by rw [e], (h.cast e.symm rfl).more hbase, hb⟩
theorem givesIB_none {w w' : World} {A : Option Addr} {c base : Nat} (h : OwnI w' base A 0 c []) (hbase : w.heap.size ≤ base) (hb : Below w.heap.size w w') : GivesIB [] false w (.returned (.tuple #[.slice A 0 c, .bool false])) w' :=
  ⟨A, c, rfl, h.more hbase, hb⟩
/-- The results of a search as a list and a flag. -/
def optL (r : Option (List Nat)) : List Int := ints (r.getD [])
theorem GivesR.ib {r : Option (List Nat)} {base : Nat} {w : World} {e : Ending} {w' : World} (h : GivesR r base w e w') (hb : w.heap.size ≤ base) : GivesIB (optL r) r.isSome w e w' := by
  obtain ⟨A, c, rfl, hown, hbl⟩ := h
  have e := ints_len (r.getD [])
  exact ⟨A, c, by rw [optL, e], (hown.cast e.symm rfl).more hb, hbl⟩
theorem GivesIB.up {xs : List Int} {b : Bool} {w0 w : World} {e : Ending} {w' : World} (h : GivesIB xs b w e w') (hb : Up w0 w) : GivesIB xs b w0 e w' := by
  obtain ⟨A, c, h1, h2, h3⟩ := h
  exact ⟨A, c, h1, h2.more hb.size, Up.then_ hb h3⟩
set_option maxHeartbeats 1000000 in
theorem specUmbrellaOf_any (N : Int) (A : Option Addr) (n c : Nat) (X : List Int) (w : World) (hX : RI w A n X) (hn : n ≤ 9223372036854775807) :
    Calls Try.prog 49 #[.agg #[.int .i64 N, .slice A n c]] w (GivesIB (optL (umbOf N X)) (umbOf N X).isSome w) := by
  rcases isGraph_cases N X with hg | ⟨k, Q, rfl, rfl, h⟩
  · have Hg := Lib.hid hg
    rw [umbOf_no hg]
    clear hg
    go_enter Try.func49, Try.ntmps49
    go_wp2_with fail
    refine (specIsGraph_is (hX.up (by go_grown)) hn Hg.out).mono ?_
    rintro e w1 ⟨rfl, hb1⟩
    have hU1 : Up w w1 := Up.then_ (by go_grown) hb1
    have hown0 := OwnI.made (base := w1.heap.size) w1 (Nat.le_refl _)
    have hww := hU1.alloc hU1.size (.cells #[] 3)
    go_wp2
    go_ret2
    exact givesIB_none hown0 hU1.size hww
  · obtain rfl : n = k := by rw [← hX.1, ints_len, h.len]
    rw [umbOf_ok h]
    go_enter Try.func49, Try.ntmps49
    go_wp2_with fail
    refine (specIsGraph_is (hX.up (by go_grown)) hn h.is).mono ?_
    rintro e w1 ⟨rfl, hb1⟩
    have hU1 : Up w w1 := Up.then_ (by go_grown) hb1
    replace hX := hX.up hU1
    have hblk := (Blk.new w 45 #[.int .i64 n, .slice A n c]).up hb1
    have hyb := hblk.two
    have hlb := hblk.lt
    have hown0 := OwnI.made (base := w1.heap.size) w1 (Nat.le_refl _)
    have hs1 := hU1.size
    go_wp2_with fail
    refine (l12Search_any n c A Q h w1.heap.size n [] ⟨w1.heap.size, 0, none⟩ 0 _ (by simp) (by simp) hown0 (by simp) (hX.alloc _)).mono ?_
    rintro e w2 ⟨A2, c2, rfl, hown2, hb2⟩
    have hU2 : Up w1 w2 := Up.then_ (by go_grown) hb2
    go_wp2
    go_ret2
    refine GivesIB.up (w := w1) ?_ hU1
    have e := ints_len ((srch (umb Q) yes n n []).getD [])
    exact ⟨A2, c2, by rw [optL, e]; rfl, hown2.cast e.symm rfl, hU2⟩
theorem specIsProper_any (N : Int) (A : Option Addr) (n c : Nat) (X : List Int) (w : World) (hX : RI w A n X) (hn : n ≤ 9223372036854775807) :
    Calls Try.prog 40 #[.agg #[.int .i64 N, .slice A n c]] w fun e w' => e = .returned (.bool (umbOf N X).isSome) ∧ Below w.heap.size w w' := by
  go_enter Try.func40, Try.ntmps40
  go_wp2_with fail
  refine (specUmbrellaOf_any N A n c X _ (hX.up (by go_grown)) hn).mono ?_
  rintro e w1 ⟨A1, c1, rfl, hown, hb1⟩
  have hU1 : Up w w1 := Up.then_ (by go_grown) hb1
  go_wp2
  go_ret
  exact ⟨rfl, hU1⟩
set_option maxRecDepth 100000 in
set_option maxHeartbeats 2000000 in
theorem umbFirst_any (N : Int) (A : Option Addr) (n c bG2 : Nat) (X : List Int) (w : World) (hX : RI w A n X) (hn : n ≤ 9223372036854775807) (hG : Blk w bG2 45 #[.int .i64 N, .slice A n c]) :
    Calls Try.prog 86 #[.agg #[.int .i64 N, .slice A n c], .int .i64 N, .func (.func 87) #[] #[.pointer (some ⟨bG2, 0, none⟩)], .func (.func 88) #[] #[]] w (GivesIB (optL (umbOf N X)) (umbOf N X).isSome w) := by
  have hnq := neq_nil
  rcases isGraph_cases N X with hg | ⟨k, Q, rfl, rfl, h⟩
  · have Hg := Lib.hid hg
    rw [umbOf_no hg]
    clear hg
    go_enter Try.func86, Try.ntmps86
    go_wp2_with fail
    refine (implIsGraph_is (hX.up (by go_grown)) hn Hg.out).mono ?_
    rintro e w1 ⟨rfl, hb1⟩
    have hU1 : Up w w1 := Up.then_ (by go_grown) hb1
    go_wp2
    go_ret2
    exact givesIB_none (OwnI.nil_ _ _) (Nat.le_refl _) hU1
  · obtain rfl : n = k := by rw [← hX.1, ints_len, h.len]
    rw [umbOf_ok h]
    go_enter Try.func86, Try.ntmps86
    go_wp2_with fail
    obtain ⟨W0, hW0⟩ : ∃ W0, W0 = (((((w.alloc (.cells #[.int .i64 n, .slice A n c] 45)).alloc (.cells #[.int .i64 n] 3)).alloc (.cells #[.func (.func 87) #[] #[.pointer (some ⟨bG2, 0, none⟩)]] 83)).alloc (.cells #[.func (.func 88) #[] #[]] 83)).alloc (.cells #[.func (.func 106) #[] #[.pointer (some ⟨w.heap.size + 1, 0, none⟩), .pointer (some ⟨w.heap.size + 1 + 1 + 1, 0, none⟩), .pointer (some ⟨w.heap.size, 0, none⟩), .pointer (some ⟨w.heap.size + 1 + 1, 0, none⟩), .pointer (some ⟨w.heap.size + 1 + 1 + 1 + 1, 0, none⟩)]] 27)) := ⟨_, rfl⟩
    have hbG : Blk W0 (w.heap.size) 45 #[.int .i64 n, .slice A n c] := by rw [hW0]; exact (Blk.new_at (w := w) (t := 45) (cs := #[.int .i64 n, .slice A n c]) (g := w.heap.size) (by simp)).up (by go_grown)
    have hbN : Blk W0 (w.heap.size + 1) 3 #[.int .i64 n] := by rw [hW0]; exact (Blk.new_at (w := (w.alloc (.cells #[.int .i64 n, .slice A n c] 45))) (t := 3) (cs := #[.int .i64 n]) (g := w.heap.size + 1) (by simp)).up (by go_grown)
    have hbM : Blk W0 (w.heap.size + 1 + 1) 83 #[.func (.func 87) #[] #[.pointer (some ⟨bG2, 0, none⟩)]] := by rw [hW0]; exact (Blk.new_at (w := ((w.alloc (.cells #[.int .i64 n, .slice A n c] 45)).alloc (.cells #[.int .i64 n] 3))) (t := 83) (cs := #[.func (.func 87) #[] #[.pointer (some ⟨bG2, 0, none⟩)]]) (g := w.heap.size + 1 + 1) (by simp)).up (by go_grown)
    have hbH : Blk W0 (w.heap.size + 1 + 1 + 1) 83 #[.func (.func 88) #[] #[]] := by rw [hW0]; exact (Blk.new_at (w := (((w.alloc (.cells #[.int .i64 n, .slice A n c] 45)).alloc (.cells #[.int .i64 n] 3)).alloc (.cells #[.func (.func 87) #[] #[.pointer (some ⟨bG2, 0, none⟩)]] 83))) (t := 83) (cs := #[.func (.func 88) #[] #[]]) (g := w.heap.size + 1 + 1 + 1) (by simp)).up (by go_grown)
    have hbS : Blk W0 (w.heap.size + 1 + 1 + 1 + 1) 27 #[.func (.func 106) #[] #[.pointer (some ⟨w.heap.size + 1, 0, none⟩), .pointer (some ⟨w.heap.size + 1 + 1 + 1, 0, none⟩), .pointer (some ⟨w.heap.size, 0, none⟩), .pointer (some ⟨w.heap.size + 1 + 1, 0, none⟩), .pointer (some ⟨w.heap.size + 1 + 1 + 1 + 1, 0, none⟩)]] := by rw [hW0]; exact (Blk.new_at (w := ((((w.alloc (.cells #[.int .i64 n, .slice A n c] 45)).alloc (.cells #[.int .i64 n] 3)).alloc (.cells #[.func (.func 87) #[] #[.pointer (some ⟨bG2, 0, none⟩)]] 83)).alloc (.cells #[.func (.func 88) #[] #[]] 83))) (t := 27) (cs := #[.func (.func 106) #[] #[.pointer (some ⟨w.heap.size + 1, 0, none⟩), .pointer (some ⟨w.heap.size + 1 + 1 + 1, 0, none⟩), .pointer (some ⟨w.heap.size, 0, none⟩), .pointer (some ⟨w.heap.size + 1 + 1, 0, none⟩), .pointer (some ⟨w.heap.size + 1 + 1 + 1 + 1, 0, none⟩)]]) (g := w.heap.size + 1 + 1 + 1 + 1) (by simp)).up (by go_grown)
    have hU0 : Up w W0 := by rw [hW0]; go_grown
    rw [← hW0]
    clear hW0
    have hbx : UmbBx W0 A n c (w.heap.size + 1) (w.heap.size + 1 + 1 + 1) w.heap.size (w.heap.size + 1 + 1) (w.heap.size + 1 + 1 + 1 + 1) bG2 := ⟨⟨hbN, hbH⟩, ⟨hbG, hbM⟩, hbS, hG.up hU0⟩
    clear hbG hbN hbM hbH hbS
    refine (implIsGraph_is (hX.up hU0) hn h.is).mono ?_
    rintro e w1 ⟨rfl, hb1⟩
    have hU1 := Up.then_ hU0 hb1
    replace hbx := hbx.up hb1
    have hcs := hbx.cells
    go_wp2_with fail
    refine (umbSearch_any n c _ _ _ _ _ bG2 A Q h n [] none 0 _ (by simp) (by simp) RI.nil_ (fun _ => rfl) (by simp) (by omega) (hX.up hU1) hbx).mono ?_
    rintro e w2 ⟨hg2, hb2⟩
    have hU2 := Up.then_ hU1 hb2
    rcases hsr : srch (umb Q) yes n n [] with _ | r
    · rw [hsr] at hg2
      have HSr := Lib.hid hsr
      clear hsr
      obtain rfl := hg2
      go_wp2
      go_ret2
      rw [HSr.out]
      exact givesIB_none (OwnI.nil_ _ _) (Nat.le_refl _) hU2
    · rw [hsr] at hg2
      have HSr := Lib.hid hsr
      clear hsr
      obtain ⟨g5, c5, rfl, hown5⟩ := hg2
      go_wp2
      go_ret2
      rw [HSr.out]
      exact givesIB_some hown5 hU1.size hU2
set_option maxHeartbeats 1000000 in
theorem implUmbrellaOf_any (N : Int) (A : Option Addr) (n c : Nat) (X : List Int) (w : World) (hX : RI w A n X) (hn : n ≤ 9223372036854775807) :
    Calls Try.prog 50 #[.agg #[.int .i64 N, .slice A n c]] w (GivesIB (optL (umbOf N X)) (umbOf N X).isSome w) := by
  go_enter Try.func50, Try.ntmps50
  go_wp2_with fail
  refine (umbFirst_any N A n c w.heap.size X _ (hX.alloc _) hn (Blk.new _ _ _)).mono ?_
  rintro e w1 ⟨A1, c1, rfl, hown, hb1⟩
  have hU1 : Up w w1 := Up.then_ (by go_grown) hb1
  go_wp2
  go_ret2
  exact ⟨A1, c1, rfl, hown.more (by simp), hU1⟩
theorem implIsProper_any (N : Int) (A : Option Addr) (n c : Nat) (X : List Int) (w : World) (hX : RI w A n X) (hn : n ≤ 9223372036854775807) :
    Calls Try.prog 41 #[.agg #[.int .i64 N, .slice A n c]] w fun e w' => e = .returned (.bool (umbOf N X).isSome) ∧ Below w.heap.size w w' := by
  go_enter Try.func41, Try.ntmps41
  go_wp2_with fail
  refine (implUmbrellaOf_any N A n c X _ (hX.up (by go_grown)) hn).mono ?_
  rintro e w1 ⟨A1, c1, rfl, hown, hb1⟩
  have hU1 : Up w w1 := Up.then_ (by go_grown) hb1
  go_wp2
  go_ret
  exact ⟨rfl, hU1⟩
end Go.Proofs.Ytfodbgogeclifaa
