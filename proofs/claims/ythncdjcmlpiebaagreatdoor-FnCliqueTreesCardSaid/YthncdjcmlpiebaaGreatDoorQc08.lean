/- Walks of chapter 6: a list turned round. Walks of chapter 7: colours by an order. Walks of chapter 6: the colours of a chordal graph. Draws: a graph and an order. Draws: what the laws of cliques and of chordal graphs draw. Draws: what the laws of cliques and of chordal graphs draw besides. Walks of chapter 6: later neighbours, elimination orders, the program's side. Walks of chapter 6: later neighbours, elimination orders, the reference's side. -/
import Derived.Test.YthncdjcmlpiebaaGreatDoorQc02
import Derived.Test.YthncdjcmlpiebaaGreatDoorQc03
import Derived.Test.YthncdjcmlpiebaaGreatDoorQc04
import Derived.Test.YthncdjcmlpiebaaGreatDoorQc07
import Derived.Deep.LoopGhost
import Derived.Deep.RegionHeld3
import Derived.Deep.RegionWith
namespace Go.Proofs.YthncdjcmlpiebaaGreatDoor
open Go.RowKit
end Go.Proofs.YthncdjcmlpiebaaGreatDoor
namespace Go.Proofs.YthncdjcmlpiebaaGreatDoor
open Go.RowKit
/-- A row of numbers as cells. -/
def intCells (xs : List Int) : Array Value := (xs.map (Value.int .i64)).toArray
set_option maxRecDepth 100000 in
theorem intCells_get {xs : List Int} {j : Nat} (h : j < xs.length) : (intCells xs)[j]? = some (.int .i64 (xs.getD j 0)) := by simp [intCells, List.getD, List.getElem?_eq_getElem h]
set_option maxRecDepth 100000 in
theorem Blk.int {w : World} {g j : Nat} {t : TypeId} {xs : List Int} (h : Blk w g t (intCells xs)) (hj : j < xs.length) : w.cell? ⟨g, j, none⟩ = some (.int .i64 (xs.getD j 0)) := by rw [h.cell, intCells_get hj]
end Go.Proofs.YthncdjcmlpiebaaGreatDoor
namespace Go.Proofs.YthncdjcmlpiebaaGreatDoor
open Go.RowKit
end Go.Proofs.YthncdjcmlpiebaaGreatDoor
namespace Go.Proofs.YthncdjcmlpiebaaGreatDoor
open Go.RowKit
/-- A drawn graph in a box, the cursor and the result beside. -/
structure DB (w : World) (g : Nat) (B : Option Addr) (n c : Nat) (bs : List Int) (gr gb : Nat) (N : Int) (A : Option Addr) (m d : Nat) (X : List Int) (wr : World) : Prop where
  cur : Cur wr g B n c bs
  res : Blk wr gr 29 #[.int .i64 0, .slice none 0 0]
  box : Blk wr gb 29 #[.int .i64 N, .slice A m d]
  own : OwnI wr (g + 1) A m d X
  bel : Below w.heap.size w wr
  hgr : w.heap.size ≤ gr
  low : w.heap.size ≤ g
  ne : gr ≠ g
  hgb : g < gb
  ne2 : gr ≠ gb
section
variable {w wr w' : World} {g n c gr gb m d : Nat} {B A : Option Addr} {bs X : List Int} {N : Int}
set_option maxRecDepth 100000 in
theorem DB.up (I : DB w g B n c bs gr gb N A m d X wr) (hb : Up wr w') : DB w g B n c bs gr gb N A m d X w' :=
  ⟨I.cur.up hb, I.res.up hb, I.box.up hb, I.own.up hb, Up.then_ I.bel hb, I.hgr, I.low, I.ne, I.hgb, I.ne2⟩
set_option maxRecDepth 100000 in
theorem DB.dr (I : DB w g B n c bs gr gb N A m d X wr) (hC : Cur w' g B n c bs) (hg : wr.grownBy w' (some g)) : DB w g B n c bs gr gb N A m d X w' :=
  ⟨hC, I.res.grown hg (fun e => I.ne (by injection e)), I.box.grown hg (fun e => by injection e with e; have := I.hgb; omega), I.own.far_gb hg (by omega), I.bel.grown hg I.bel.size (fun k hk => by injection hk with hk; have := I.low; omega), I.hgr, I.low, I.ne, I.hgb, I.ne2⟩
set_option maxRecDepth 100000 in
/-- The box's fields go into the result. -/
theorem DB.fin (I : DB w g B n c bs gr gb N A m d X wr) : OwnI ((wr.setCell ⟨gr, 0, none⟩ (.int .i64 N)).setCell ⟨gr, 1, none⟩ (.slice A m d)) w.heap.size A m d X ∧ Below w.heap.size w ((wr.setCell ⟨gr, 0, none⟩ (.int .i64 N)).setCell ⟨gr, 1, none⟩ (.slice A m d)) ∧ Blk ((wr.setCell ⟨gr, 0, none⟩ (.int .i64 N)).setCell ⟨gr, 1, none⟩ (.slice A m d)) gr 29 #[.int .i64 N, .slice A m d] ∧
    ∀ (A' : Option Addr) (k d' : Nat) (xs : List Int), OwnI wr w.heap.size A' k d' xs → OwnI ((wr.setCell ⟨gr, 0, none⟩ (.int .i64 N)).setCell ⟨gr, 1, none⟩ (.slice A m d)) w.heap.size A' k d' xs :=
  ⟨((I.own.more (base' := w.heap.size) (by have := I.low; omega)).other_store (i := 0) I.res (by decide) _).other_store (i := 1) (I.res.set_ 0 _) (by decide) _, (I.bel.setCell (p := ⟨gr, 0, none⟩) I.hgr _).setCell (p := ⟨gr, 1, none⟩) I.hgr _, (I.res.set_ 0 _).set_ 1 _,
    fun _ _ _ _ ho => (ho.other_store (i := 0) I.res (by decide) _).other_store (i := 1) (I.res.set_ 0 _) (by decide) _⟩
end
end Go.Proofs.YthncdjcmlpiebaaGreatDoor
namespace Go.Proofs.YthncdjcmlpiebaaGreatDoor
open Go.RowKit
/-- A graph of the call's own. -/
def DG (P : Int → List Int → Prop) (w : World) (e : Ending) (w' : World) : Prop := ∃ N A m d X, e = .returned (.agg #[.int .i64 N, .slice A m d]) ∧ OwnI w' w.heap.size A m d X ∧ P N X ∧ Below w.heap.size w w'
end Go.Proofs.YthncdjcmlpiebaaGreatDoor
namespace Go.Proofs.YthncdjcmlpiebaaGreatDoor
open Go.RowKit
end Go.Proofs.YthncdjcmlpiebaaGreatDoor
namespace Go.Proofs.YthncdjcmlpiebaaGreatDoor
open Go.RowKit
set_option maxRecDepth 100000 in
theorem RI.drop {w : World} {a : Addr} {n k : Nat} {xs : List Int} (h : RI w (some a) n xs) (hk : k ≤ n) : RI w (some (a.add k)) (n - k) (xs.drop k) := by
  refine ⟨by rw [List.length_drop, h.1], fun hn => ⟨a.add k, rfl, fun j hj => ?_⟩⟩
  obtain ⟨ad, e, _, hc⟩ := h.at_ (k := k + j) (by omega)
  injection e with e
  subst e
  rw [add_of_add, hc]
  simp [List.getD]
end Go.Proofs.YthncdjcmlpiebaaGreatDoor
namespace Go.Proofs.YthncdjcmlpiebaaGreatDoor
open Go.RowKit
set_option maxRecDepth 100000 in
set_option maxHeartbeats 2000000 in
theorem specLater_any (N v : Int) (A B : Option Addr) (n c m d : Nat) (X l : List Int) (w : World) (hX : RI w A n X) (hL : RI w B m l) (hn : n ≤ 1048576) (hm : m ≤ 1048576) :
    Calls Tryz.prog 148 #[.agg #[.int .i64 N, .slice A n c], .slice B m d, .int .i64 v] w fun e w' => e = .returned (.int .i64 (laterOf N X l v : Nat)) ∧ Below w.heap.size w w' := by
  have hbk := Blk.new w 29 #[.int .i64 N, .slice A n c]
  rcases isOrder_cases N X l with hg | ⟨hg, k, Q, o, rfl, rfl, rfl, h, ho, hol⟩
  · have H1 := Lib.hid hg
    have HR := Lib.hid (laterOf_no (v := v) hg)
    rw [HR.out]
    clear hg
    go_enter Tryz.func148, Tryz.ntmps148
    go_wp2_with fail
    refine (specIsOrder_is (hX.up (by go_grown)) (hL.up (by go_grown)) (by omega) (by omega) H1.out).mono ?_
    rintro e w1 ⟨rfl, hb1⟩
    have hU1 : Up w w1 := Up.then_ (by go_grown) hb1
    go_wp2
    go_ret
    exact ⟨rfl, hU1⟩
  · have e1 : n = k := by have := hX.1; rw [ints_len, h.len] at this; exact this.symm
    have e2 : m = k := by have := hL.1; rw [ints_len, hol] at this; exact this.symm
    subst e1 e2
    have h7 := h.le
    have h1 := h.pos
    have H1 := Lib.hid hg
    obtain ⟨a, rfl, _, _⟩ := hX.addr h.pos
    obtain ⟨b, rfl, _, _⟩ := hL.addr h.pos
    by_cases hv : 0 ≤ v ∧ v < (m : Int)
    · obtain ⟨x, rfl⟩ : ∃ x : Nat, v = x := ⟨v.toNat, by omega⟩
      have hxm : x < m := by omega
      have HR := Lib.hid (show laterOf m (ints Q) (ints o) x = nb Q x &&& setN (o.drop (place o x)) from laterOf_ok hg hxm)
      rw [HR.out]
      have hmem := ho.all hol hxm
      have hpl := place_lt hmem
      rw [hol] at hpl
      have Hat := Lib.hid (show nb o (place o x) = x from place_at hmem)
      have Hne := Lib.hid (fun j (hj : j < place o x) => place_no ho hmem hj)
      have Hdr := Lib.hid (fun i (hi : i < m) => setN_drop ho (i := i) (by omega))
      have Hall := Lib.hid (show setN (o.drop 0) = p2 m - 1 by rw [List.drop_zero]; exact setN_all ho hol)
      have Hlt := Lib.hid (fun i => (Nat.lt_of_lt_of_le (setN_lt (n := m) fun y (hy : y ∈ o.drop i) => ho.1 y (List.mem_of_mem_drop hy)) (Nat.pow_le_pow_right (n := 2) (by omega) h7) : setN (o.drop i) < 128))
      have Hn := Lib.hid (fun i (hi : i < m) => ho.at_ (j := i) (by omega))
      have hb7 := h.nb7 x
      have hsh := shl_p2 (k := m) (by omega)
      have hpp := p2_le h7
      have hp1 := p2_pos m
      have hsub : wrap64 ((p2 m : Int) - 1) = ((p2 m : Int) - 1) := IntWalk.wrap64_in _ ⟨by omega, by omega⟩
      have Hsub := Lib.hid (show ((p2 m - 1 : Nat) : Int) = (p2 m : Int) - 1 by omega)
      have d1 : decide ((x : Int) < 0) = false := decide_eq_false (by omega)
      have d2 : decide ((m : Int) ≤ (x : Int)) = false := decide_eq_false (by omega)
      have d2n : decide (m ≤ x) = false := decide_eq_false (by omega)
      obtain ⟨p, hp⟩ : ∃ p, p = place o x := ⟨_, rfl⟩
      rw [← hp] at hpl Hat Hne ⊢
      clear hg hmem hp hv
      go_enter Tryz.func148, Tryz.ntmps148
      go_wp2_with fail
      refine (specIsOrder_is (hX.up (by go_grown)) (hL.up (by go_grown)) (by omega) (by omega) H1.out).mono ?_
      rintro e w1 ⟨rfl, hb1⟩
      have hU1 : Up w w1 := Up.then_ (by go_grown) hb1
      replace hX := hX.up hU1
      replace hL := hL.up hU1
      have hyb := (hbk.up hb1).two
      have hcx := hX.nbs hxm
      go_wp2_with fail
      clear hsh hsub
      go_loop [7, 8] (fun u s => ∃ i : Nat, i ≤ p ∧ s = .int .i64 i ∧ u = .int .i64 (setN (o.drop i) : Nat)) (fun _ s => m - (intOf s).toNat)
      case atStart => exact ⟨0, Nat.zero_le _, rfl, by rw [Hall.out, Hsub.out]⟩
      case round =>
        obtain ⟨i, hi, rfl, rfl⟩ := hrel
        have him : i < m := by omega
        have hci := hL.nbs him
        have hyn := Hn.out i him
        have hs7 := Hlt.out i
        have hdr := Hdr.out i him
        have dl : decide ((i : Int) < (m : Int)) = true := decide_eq_true (by omega)
        by_cases hip : i < p
        · have hne := Hne.out i hip
          obtain ⟨y, hy⟩ : ∃ y, y = nb o i := ⟨_, rfl⟩
          rw [← hy] at hci hyn hdr hne
          clear hy
          have hneI : ((y : Int) != (x : Int)) = true := by rw [bne_iff_ne]; omega
          have hshy := shl_p2 (k := y) (by omega)
          obtain ⟨U, hU⟩ : ∃ U, U = setN (o.drop i) := ⟨_, rfl⟩
          rw [← hU] at hs7 hdr ⊢
          obtain ⟨V, hV⟩ : ∃ V, V = setN (o.drop (i + 1)) := ⟨_, rfl⟩
          rw [← hV] at hdr
          have HV := Lib.hid hV
          clear hU hV
          have hd2 : V + p2 y = U := hdr
          have HS := Lib.hid (show wrap64 ((U : Int) - (p2 y : Int)) = (V : Int) by rw [IntWalk.wrap64_in _ ⟨by omega, by omega⟩]; omega)
          have HS2 := Lib.hid (show (U : Int) - (p2 y : Int) = (V : Int) by omega)
          clear hdr hd2
          go_wp2
          go_round
          case rel => exact ⟨i + 1, by omega, by go_num, by rw [← HV.out]; first | rw [HS.out] | rw [HS2.out]⟩
          case measure => simp [intOf]; omega
        · obtain rfl : i = p := by omega
          rw [Hat.out] at hci
          have hneI : ((x : Int) != (x : Int)) = false := by simp
          have hand := i64_and7 hb7 hs7
          obtain ⟨U, hU⟩ : ∃ U, U = setN (o.drop i) := ⟨_, rfl⟩
          rw [← hU] at hs7 hand ⊢
          have HU := Lib.hid hU
          clear hU hdr
          go_wp2
          go_ret
          rw [← HU.out]
          exact ⟨rfl, hU1⟩
    · have HR := Lib.hid (laterOf_out (X := ints Q) (l := ints o) hv)
      rw [HR.out]
      clear hg
      rcases Int.lt_or_le v 0 with h' | h'
      · have d1 : decide (v < 0) = true := decide_eq_true h'
        clear hv h'
        go_enter Tryz.func148, Tryz.ntmps148
        go_wp2_with fail
        refine (specIsOrder_is (hX.up (by go_grown)) (hL.up (by go_grown)) (by omega) (by omega) H1.out).mono ?_
        rintro e w1 ⟨rfl, hb1⟩
        have hU1 : Up w w1 := Up.then_ (by go_grown) hb1
        go_wp2
        go_ret
        exact ⟨rfl, hU1⟩
      · have d1 : decide (v < 0) = false := decide_eq_false (by omega)
        have d2 : decide ((m : Int) ≤ v) = true := decide_eq_true (by omega)
        clear hv h'
        go_enter Tryz.func148, Tryz.ntmps148
        go_wp2_with fail
        refine (specIsOrder_is (hX.up (by go_grown)) (hL.up (by go_grown)) (by omega) (by omega) H1.out).mono ?_
        rintro e w1 ⟨rfl, hb1⟩
        have hU1 : Up w w1 := Up.then_ (by go_grown) hb1
        have hyb := (hbk.up hb1).two
        go_wp2
        go_ret
        exact ⟨rfl, hU1⟩
set_option maxRecDepth 100000 in
theorem specLater_is {N v : Int} {A B : Option Addr} {n c m d s : Nat} {X l : List Int} {w : World} (hX : RI w A n X) (hL : RI w B m l) (hn : n ≤ 1048576) (hm : m ≤ 1048576) (hs : laterOf N X l v = s) :
    Calls Tryz.prog 148 #[.agg #[.int .i64 N, .slice A n c], .slice B m d, .int .i64 v] w fun e w' => e = .returned (.int .i64 (s : Nat)) ∧ Below w.heap.size w w' := by
  subst hs; exact specLater_any N v A B n c m d X l w hX hL hn hm
end Go.Proofs.YthncdjcmlpiebaaGreatDoor
