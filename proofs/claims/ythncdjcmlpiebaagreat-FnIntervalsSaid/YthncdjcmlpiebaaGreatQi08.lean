/- Walks of chapter 5: vertices, labels, the lexicographic order of the program. Walks of chapter 5: labels, the lexicographic order of the program. Walks of chapter 5: the reference's labels and lexicographic order. Walks of chapter 6: the reference's elimination order. Walks of chapter 6: a list turned round. Walks of chapter 7: colours by an order. Walks of chapter 6: the colours of a chordal graph. Walks of chapter 6: later neighbours, elimination orders, the program's side. Walks of chapter 6: later neighbours, elimination orders, the reference's side. -/
import Derived.Test.YthncdjcmlpiebaaGreatQi01
import Derived.Test.YthncdjcmlpiebaaGreatQi02
import Derived.Test.YthncdjcmlpiebaaGreatQi03
import Derived.Test.YthncdjcmlpiebaaGreatQi04
import Derived.Test.YthncdjcmlpiebaaGreatQi06
import Derived.Deep.LoopGhost
import Derived.Deep.RegionHeld3
namespace Go.Proofs.YthncdjcmlpiebaaGreat
open Go.RowKit
/-- All of a list are from 0 to N - 1. -/
def allIn (N : Int) (l : List Int) : Bool := l.all fun v => decide (0 ≤ v) && decide (v < N)
set_option maxRecDepth 100000 in
theorem allIn_out {N : Int} {l : List Int} {k : Nat} (hk : k < l.length) (h : ¬ (0 ≤ l.getD k 0 ∧ l.getD k 0 < N)) : allIn N l = false := by
  rw [← Bool.not_eq_true, allIn, List.all_eq_true]
  intro e
  have := e _ (List.getElem_mem hk)
  rw [Bool.and_eq_true, decide_eq_true_eq, decide_eq_true_eq] at this
  exact h (by simpa [List.getD, List.getElem?_eq_getElem hk] using this)
set_option maxRecDepth 100000 in
theorem allIn_yes {N : Int} {l : List Int} (h : ∀ k, k < l.length → 0 ≤ l.getD k 0 ∧ l.getD k 0 < N) : allIn N l = true := by
  rw [allIn, List.all_eq_true]
  intro v hv
  obtain ⟨k, hk, rfl⟩ := List.mem_iff_getElem.1 hv
  have := h k hk
  rw [Bool.and_eq_true, decide_eq_true_eq, decide_eq_true_eq]
  simpa [List.getD, List.getElem?_eq_getElem hk] using this
set_option maxRecDepth 100000 in
set_option maxHeartbeats 1000000 in
theorem isVertex_any (N : Int) (A B : Option Addr) (n c m d : Nat) (X l : List Int) (w : World) (hX : RI w A n X) (hL : RI w B m l) (hn : n ≤ 9223372036854775807) (hm : m ≤ 9223372036854775807) :
    Calls Tryz.prog 114 #[.agg #[.int .i64 N, .slice A n c], .slice B m d] w fun e w' => e = .returned (.bool (isGraph N X && allIn N l)) ∧ Below w.heap.size w w' := by
  have HL := Lib.hid hL.1
  have hbk := Blk.new w 26 #[.int .i64 N, .slice A n c]
  have hyb := hbk.two
  have hlb := hbk.lt
  have hU : Up w (w.alloc (.cells #[.int .i64 N, .slice A n c] 26)) := by go_grown
  rcases Bool.eq_false_or_eq_true (isGraph N X) with hg | hg
  · obtain ⟨k, Q, rfl, rfl, h⟩ := isGraph_ok hg
    have H1 := Lib.hid hg
    have Hno := Lib.hid fun k' (hk : k' < l.length) (h : ¬ (0 ≤ l.getD k' 0 ∧ l.getD k' 0 < (k : Int))) => allIn_out hk h
    have Hyes := Lib.hid (allIn_yes (N := (k : Int)) (l := l))
    have h1 := h.pos
    have h7 := h.le
    obtain ⟨b, hb⟩ : ∃ b, b = allIn (k : Int) l := ⟨_, rfl⟩
    rw [hg, Bool.true_and, ← hb]
    have Hb := Lib.hid hb
    have hsub : wrap64 ((k : Int) - 1) = (k : Int) - 1 := IntWalk.wrap64_in _ ⟨by omega, by omega⟩
    clear hg hb
    go_enter Tryz.func114, Tryz.ntmps114
    go_wp2_with fail
    go_loop [9] (fun s => ∃ i : Nat, i ≤ m ∧ s = .int .i64 i ∧ Hid (∀ j, j < i → 0 ≤ l.getD j 0 ∧ l.getD j 0 < (k : Int))) (fun s => m - (intOf s).toNat)
    case atStart => exact ⟨0, Nat.zero_le _, rfl, fun j hj => absurd hj (by omega)⟩
    case round =>
      obtain ⟨i, hi, rfl, hall⟩ := hrel
      by_cases hit : i < m
      · obtain ⟨ad, rfl, hla, hcl⟩ := hL.at_ hit
        have hcl2 := fun o => (World.cell?_alloc_lt w o (ad.add i) (by rw [block_of_add]; exact hla)).trans hcl
        obtain ⟨z, hz⟩ : ∃ z, z = l.getD i 0 := ⟨_, rfl⟩
        have Hz := Lib.hid hz
        rw [← hz] at hcl2
        clear hcl hz
        by_cases hin : 0 ≤ z ∧ z < (k : Int)
        · have hin2 : 0 ≤ z ∧ z ≤ (k : Int) - 1 := ⟨hin.1, by omega⟩
          go_wp2_with (go_at_call 107; refine ((within_yes _ _ _ _ hin2).mono fun _ _ h => And.intro h.1 h.2.symm).mono ?_; rintro e w' ⟨rfl, rfl⟩)
          go_round
          case rel => exact ⟨i + 1, by omega, by go_num, fun j hj => by
            rcases Nat.lt_succ_iff_lt_or_eq.1 hj with h' | rfl
            · exact hall.out j h'
            · rw [← Hz.out]; exact hin⟩
          case measure => simp [intOf]; omega
        · have hin2 : ¬ (0 ≤ z ∧ z ≤ (k : Int) - 1) := fun h => hin ⟨h.1, by omega⟩
          have HR := Lib.hid (show b = false by rw [Hb.out]; exact Hno.out i (by rw [HL.out]; exact hit) (by rw [← Hz.out]; exact hin))
          go_wp2_with (go_at_call 107; refine ((within_no _ _ _ _ hin2).mono fun _ _ h => And.intro h.1 h.2.symm).mono ?_; rintro e w' ⟨rfl, rfl⟩)
          go_ret
          exact ⟨ret_bool HR.out.symm, hU⟩
      · obtain rfl : i = m := by omega
        have HR := Lib.hid (show b = true by rw [Hb.out]; exact Hyes.out fun j hj => hall.out j (by rw [← HL.out]; exact hj))
        go_wp2_with fail
        refine (implIsGraph_is (hX.up (by go_grown)) hn H1.out).mono ?_
        rintro e w1 ⟨rfl, hb1⟩
        have hU1 : Up w w1 := Up.then_ (by go_grown) hb1
        go_wp2
        go_ret
        exact ⟨ret_bool HR.out.symm, hU1⟩
  · have H1 := Lib.hid hg
    rw [hg, Bool.false_and]
    clear hg
    go_enter Tryz.func114, Tryz.ntmps114
    go_wp2_with fail
    go_loop [9] (fun s => ∃ i : Nat, i ≤ m ∧ s = .int .i64 i) (fun s => m - (intOf s).toNat)
    case atStart => exact ⟨0, Nat.zero_le _, rfl⟩
    case round =>
      obtain ⟨i, hi, rfl⟩ := hrel
      by_cases hit : i < m
      · obtain ⟨ad, rfl, hla, hcl⟩ := hL.at_ hit
        have hcl2 := fun o => (World.cell?_alloc_lt w o (ad.add i) (by rw [block_of_add]; exact hla)).trans hcl
        obtain ⟨z, hz⟩ : ∃ z, z = l.getD i 0 := ⟨_, rfl⟩
        rw [← hz] at hcl2
        clear hcl hz
        obtain ⟨u, hu⟩ : ∃ u, u = wrap64 (N - 1) := ⟨_, rfl⟩
        replace hu := hu.symm
        by_cases hin : 0 ≤ z ∧ z ≤ u
        · go_wp2_with (go_at_call 107; refine ((within_yes _ _ _ _ hin).mono fun _ _ h => And.intro h.1 h.2.symm).mono ?_; rintro e w' ⟨rfl, rfl⟩)
          go_round
          case rel => exact ⟨i + 1, by omega, by go_num⟩
          case measure => simp [intOf]; omega
        · go_wp2_with (go_at_call 107; refine ((within_no _ _ _ _ hin).mono fun _ _ h => And.intro h.1 h.2.symm).mono ?_; rintro e w' ⟨rfl, rfl⟩)
          go_ret
          exact ⟨rfl, hU⟩
      · obtain rfl : i = m := by omega
        go_wp2_with fail
        refine (implIsGraph_is (hX.up (by go_grown)) hn H1.out).mono ?_
        rintro e w1 ⟨rfl, hb1⟩
        have hU1 : Up w w1 := Up.then_ (by go_grown) hb1
        go_wp2
        go_ret
        exact ⟨rfl, hU1⟩
set_option maxRecDepth 100000 in
theorem isVertex_is {N : Int} {A B : Option Addr} {n c m d : Nat} {X l : List Int} {w : World} {b : Bool} (hX : RI w A n X) (hL : RI w B m l) (hn : n ≤ 9223372036854775807) (hm : m ≤ 9223372036854775807) (h : (isGraph N X && allIn N l) = b) :
    Calls Tryz.prog 114 #[.agg #[.int .i64 N, .slice A n c], .slice B m d] w fun e w' => e = .returned (.bool b) ∧ Below w.heap.size w w' := by
  subst h; exact isVertex_any N A B n c m d X l w hX hL hn hm
end Go.Proofs.YthncdjcmlpiebaaGreat
namespace Go.Proofs.YthncdjcmlpiebaaGreat
open Go.RowKit
set_option maxRecDepth 100000 in
theorem lit_own {w : World} {g : Nat} (h : w.heap.size = g) {base : Nat} (hb : base ≤ g) (x : Int) : OwnI (w.alloc (.cells #[.int .i64 x] 3)) base (some ⟨g, 0, none⟩) 1 1 [x] := (OwnI.of_blk (L := [x]) (Blk.new_at h) rfl (by simp)).more hb
end Go.Proofs.YthncdjcmlpiebaaGreat
namespace Go.Proofs.YthncdjcmlpiebaaGreat
open Go.RowKit
set_option maxRecDepth 100000 in
set_option maxHeartbeats 1000000 in
theorem l5Label_any (A : Option Addr) (bd : Addr) (n c d v : Nat) (Q l : List Nat) (w : World) (hX : RI w A n (ints Q)) (hL : RI w (some bd) l.length (ints l)) (h : GOk n Q) (hv : v < n) (hl : ∀ x ∈ l, x < n) (hl7 : l.length ≤ 7) :
    Calls Tryz.prog 138 #[.agg #[.int .i64 n, .slice A n c], .slice (some bd) l.length d, .int .i64 v] w fun e w' => e = .returned (.int .i64 (labK Q l v 7 : Nat)) ∧ Below w.heap.size w w' := by
  have hU : Up w (w.alloc (.cells #[.int .i64 n, .slice A n c] 26)) := by go_grown
  have hbk := Blk.new w 26 #[.int .i64 n, .slice A n c]
  have Hlt := Lib.hid fun k => labK_lt Q l v k
  have Hat := Lib.hid fun k (hk : k < l.length) => hl _ (nb_mem hk)
  obtain ⟨W, hW⟩ : ∃ W, W = w.alloc (.cells #[.int .i64 n, .slice A n c] 26) := ⟨_, rfl⟩
  rw [← hW] at hU hbk
  go_enter Tryz.func138, Tryz.ntmps138
  go_wp2_with fail
  rw [← hW]
  clear hW
  have hXW := hX.up hU
  have hLW := hL.up hU
  go_loopw [7, 8] (fun x s wr => ∃ i : Nat, i ≤ 7 ∧ s = .int .i64 i ∧ x = .int .i64 (labK Q l v i : Nat) ∧ Up W wr) (fun _ s _ => 7 - (intOf s).toNat)
  case atStart => exact ⟨0, Nat.zero_le _, rfl, rfl, Up.refl _⟩
  case round =>
    obtain ⟨i, hi, rfl, rfl, hb⟩ := hrel
    obtain ⟨wi, rfl⟩ : ∃ wi : World, wi = wr := ⟨_, rfl⟩
    by_cases hit : i < 7
    · have hlb := Hlt.out i
      have hS := Lib.hid (show labK Q l v (i + 1) = labK Q l v i * 2 + if i < l.length ∧ edge Q (nb l i) v = true then 1 else 0 from rfl)
      have hp := Nat.pow_le_pow_right (n := 2) (by omega) (show i ≤ 7 by omega)
      obtain ⟨y, hy⟩ : ∃ y, y = labK Q l v i := ⟨_, rfl⟩
      rw [← hy] at hS hlb ⊢
      clear hy
      obtain ⟨m2, hme⟩ : ∃ m2 : Nat, m2 = y * 2 := ⟨_, rfl⟩
      have hm2 : wrap64 ((y : Int) * 2) = (m2 : Int) := by rw [IntWalk.wrap64_in _ ⟨by omega, by omega⟩]; omega
      rw [← hme] at hS
      have hm7 : m2 < 512 := by omega
      clear hme hlb hp
      have ha1 : wrap64 ((m2 : Int) + 1) = ((m2 + 1 : Nat) : Int) := by rw [IntWalk.wrap64_in _ ⟨by omega, by omega⟩]; omega
      have hyb := (hbk.up hb).two
      have hlbk := (hbk.up hb).lt
      have hXi := hXW.up hb
      have hLi := hLW.up hb
      by_cases hil : i < l.length
      · have hxn := Hat.out i hil
        have hcl := hLi.nbs hil
        have habs : bd.block < wi.heap.size := by obtain ⟨_, e, h1, _⟩ := hLi.addr (by omega); injection e with e; subst e; exact h1
        obtain ⟨x, hx⟩ : ∃ x, x = nb l i := ⟨_, rfl⟩
        rw [← hx] at hcl hS hxn
        clear hx
        rcases Bool.eq_false_or_eq_true (edge Q x v) with e1 | e1
        · have H1 := Lib.hid (show (nb Q x).testBit v = true from e1)
          rw [if_pos ⟨hil, e1⟩] at hS
          clear e1
          go_wp2
          have hV0 : Up wi wi.drew := (Up.refl _).drew
          refine wp_region_calm (S := (fun w' => Up wi w' ∧ (∀ b o, b < wi.heap.size → w'.cell? ⟨b, o, none⟩ = wi.cell? ⟨b, o, none⟩) ∧ w'.cell? (bd.add i) = some (.int .i64 x))) (by kernel_rfl) (by kernel_rfl) (by exact ⟨hV0, fun _ _ hb => hV0.cell hb, (hV0.cell (by first | assumption | (rw [block_of_add]; assumption))).trans (by assumption)⟩) ?_
          repeat (first | (refine CalmSeq.cons undef (Calm.off (by rfl)) ?_; (try simp only [Act.put, List.setIfInBounds_toArray, List.set_cons_zero, List.set_cons_succ])) | (refine CalmSeq.cons ?_ (Calm.val (by rfl) ?_) ?_; rotate_left; (intro wC hSw; (try dsimp only at hSw); go_simp; done); (try simp only [Act.put, List.setIfInBounds_toArray, List.set_cons_zero, List.set_cons_succ])) | (refine CalmSeq.cons ?_ (Calm.val (by rfl) ?_) ?_; rotate_left; (intro wC hSw; (try dsimp only at hSw); go_simp; with_reducible rfl); (try simp only [Act.put, List.setIfInBounds_toArray, List.set_cons_zero, List.set_cons_succ])) | ((refine CalmSeq.cons ?_ (Calm.call (f := ?_) (args := ?_) (by rfl) ?_ (fun wC hSw => ?_)) ?_; rotate_left 3; (intro wC; go_simp; (refine ⟨?_, ?_⟩ <;> with_reducible rfl)); (go_at_call 69; (with_reducible refine (l2Edge_is (hXi.up hSw.1) h hxn hv H1.out).mono ?_); rintro e wD ⟨rfl, hbD⟩; apply And.intro; (with_reducible rfl); (have hUD := Up.then_ hSw.1 hbD; exact ⟨hUD, fun _ _ hb => hUD.cell hb, (hUD.cell (by first | assumption | (rw [block_of_add]; assumption))).trans (by assumption)⟩))); (try simp only [Act.put, List.setIfInBounds_toArray, List.set_cons_zero, List.set_cons_succ])))
          intro w1 hS1
          have hU1 : Up wi w1 := hS1.1
          clear hS1 hV0
          go_wp2
          go_roundw
          case rel => exact ⟨i + 1, by omega, by go_num, by rw [hS.out]; first | rfl | (simp [hm2, ha1]; done), Up.then_ hb hU1⟩
          case measure => simp [intOf]; omega
        · have H1 := Lib.hid (show (nb Q x).testBit v = false from e1)
          rw [e1, if_neg (by simp)] at hS
          clear e1
          go_wp2
          have hV0 : Up wi wi.drew := (Up.refl _).drew
          refine wp_region_calm (S := (fun w' => Up wi w' ∧ (∀ b o, b < wi.heap.size → w'.cell? ⟨b, o, none⟩ = wi.cell? ⟨b, o, none⟩) ∧ w'.cell? (bd.add i) = some (.int .i64 x))) (by kernel_rfl) (by kernel_rfl) (by exact ⟨hV0, fun _ _ hb => hV0.cell hb, (hV0.cell (by first | assumption | (rw [block_of_add]; assumption))).trans (by assumption)⟩) ?_
          repeat (first | (refine CalmSeq.cons undef (Calm.off (by rfl)) ?_; (try simp only [Act.put, List.setIfInBounds_toArray, List.set_cons_zero, List.set_cons_succ])) | (refine CalmSeq.cons ?_ (Calm.val (by rfl) ?_) ?_; rotate_left; (intro wC hSw; (try dsimp only at hSw); go_simp; done); (try simp only [Act.put, List.setIfInBounds_toArray, List.set_cons_zero, List.set_cons_succ])) | (refine CalmSeq.cons ?_ (Calm.val (by rfl) ?_) ?_; rotate_left; (intro wC hSw; (try dsimp only at hSw); go_simp; with_reducible rfl); (try simp only [Act.put, List.setIfInBounds_toArray, List.set_cons_zero, List.set_cons_succ])) | ((refine CalmSeq.cons ?_ (Calm.call (f := ?_) (args := ?_) (by rfl) ?_ (fun wC hSw => ?_)) ?_; rotate_left 3; (intro wC; go_simp; (refine ⟨?_, ?_⟩ <;> with_reducible rfl)); (go_at_call 69; (with_reducible refine (l2Edge_is (hXi.up hSw.1) h hxn hv H1.out).mono ?_); rintro e wD ⟨rfl, hbD⟩; apply And.intro; (with_reducible rfl); (have hUD := Up.then_ hSw.1 hbD; exact ⟨hUD, fun _ _ hb => hUD.cell hb, (hUD.cell (by first | assumption | (rw [block_of_add]; assumption))).trans (by assumption)⟩))); (try simp only [Act.put, List.setIfInBounds_toArray, List.set_cons_zero, List.set_cons_succ])))
          intro w1 hS1
          have hU1 : Up wi w1 := hS1.1
          clear hS1 hV0
          go_wp2
          go_roundw
          case rel => exact ⟨i + 1, by omega, by go_num, by rw [hS.out]; first | rfl | (simp [hm2]; done), Up.then_ hb hU1⟩
          case measure => simp [intOf]; omega
      · rw [if_neg (fun h => hil h.1)] at hS
        go_wp2
        have hV0 : Up wi wi.drew := (Up.refl _).drew
        refine wp_region_calm (S := (fun w' => Up wi w' ∧ (∀ b o, b < wi.heap.size → w'.cell? ⟨b, o, none⟩ = wi.cell? ⟨b, o, none⟩))) (by kernel_rfl) (by kernel_rfl) (by exact ⟨hV0, fun _ _ hb => hV0.cell hb⟩) ?_
        repeat (first | (refine CalmSeq.cons undef (Calm.off (by rfl)) ?_; (try simp only [Act.put, List.setIfInBounds_toArray, List.set_cons_zero, List.set_cons_succ])) | (refine CalmSeq.cons ?_ (Calm.val (by rfl) ?_) ?_; rotate_left; (intro wC hSw; (try dsimp only at hSw); go_simp; done); (try simp only [Act.put, List.setIfInBounds_toArray, List.set_cons_zero, List.set_cons_succ])) | (refine CalmSeq.cons ?_ (Calm.val (by rfl) ?_) ?_; rotate_left; (intro wC hSw; (try dsimp only at hSw); go_simp; with_reducible rfl); (try simp only [Act.put, List.setIfInBounds_toArray, List.set_cons_zero, List.set_cons_succ])))
        intro w1 hS1
        have hU1 : Up wi w1 := hS1.1
        clear hS1 hV0
        go_wp2
        go_roundw
        case rel => exact ⟨i + 1, by omega, by go_num, by rw [hS.out]; first | rfl | (simp [hm2]; done), Up.then_ hb hU1⟩
        case measure => simp [intOf]; omega
    · obtain rfl : i = 7 := by omega
      go_wp2
      go_ret
      exact ⟨rfl, Up.then_ hU hb⟩
set_option maxRecDepth 100000 in
theorem setN_bit {n : Nat} {l : List Nat} (h : natVerts n l) (h7 : n ≤ 7) : setN l < 128 := Nat.lt_of_lt_of_le (setN_lt h.1) (Nat.pow_le_pow_right (n := 2) (by omega) h7)
set_option maxRecDepth 100000 in
theorem l5Label_is {A : Option Addr} {bd : Addr} {n c d v : Nat} {Q l : List Nat} {w : World} {z : Int} (hX : RI w A n (ints Q)) (hL : RI w (some bd) l.length (ints l)) (h : GOk n Q) (hv : v < n) (hl : ∀ x ∈ l, x < n) (hl7 : l.length ≤ 7) (hz : ((labK Q l v 7 : Nat) : Int) = z) :
    Calls Tryz.prog 138 #[.agg #[.int .i64 n, .slice A n c], .slice (some bd) l.length d, .int .i64 v] w fun e w' => e = .returned (.int .i64 z) ∧ Below w.heap.size w w' := by
  subst hz; exact l5Label_any A bd n c d v Q l w hX hL h hv hl hl7
set_option maxRecDepth 100000 in
set_option maxHeartbeats 4000000 in
theorem specLexOrder_any (N s : Int) (A : Option Addr) (n c : Nat) (X : List Int) (w : World) (hX : RI w A n X) (hn : n ≤ 9223372036854775807) :
    Calls Tryz.prog 83 #[.agg #[.int .i64 N, .slice A n c], .int .i64 s] w (GivesIB (optL (lexOf N X s)) (lexOf N X s).isSome w) := by
  have hbk := Blk.new w 26 #[.int .i64 N, .slice A n c]
  have hyb := hbk.two
  rcases lexOf_cases N X s with ⟨h0, hc⟩ | ⟨k, t, Q, rfl, rfl, rfl, h, ht⟩
  · rw [h0]
    clear h0
    rcases hc with hg | ⟨hg, hs⟩
    · have H1 := Lib.hid hg
      clear hg
      go_enter Tryz.func83, Tryz.ntmps83
      go_wp2_with fail
      refine (specIsGraph_is (hX.up (by go_grown)) hn H1.out).mono ?_
      rintro e w1 ⟨rfl, hb1⟩
      have hU1 : Up w w1 := Up.then_ (by go_grown) hb1
      have hown0 := OwnI.made (base := w1.heap.size) w1 (Nat.le_refl _)
      have hww := hU1.alloc hU1.size (.cells #[] 3)
      go_wp2
      go_ret2
      exact givesIB_none hown0 hU1.size hww
    · have H1 := Lib.hid hg
      clear hg
      rcases Int.lt_or_le s 0 with h' | h'
      · have d1 : decide (s < 0) = true := decide_eq_true h'
        clear h' hs
        go_enter Tryz.func83, Tryz.ntmps83
        go_wp2_with fail
        refine (specIsGraph_is (hX.up (by go_grown)) hn H1.out).mono ?_
        rintro e w1 ⟨rfl, hb1⟩
        have hU1 : Up w w1 := Up.then_ (by go_grown) hb1
        have hown0 := OwnI.made (base := w1.heap.size) w1 (Nat.le_refl _)
        have hww := hU1.alloc hU1.size (.cells #[] 3)
        go_wp2
        go_ret2
        exact givesIB_none hown0 hU1.size hww
      · have d1 : decide (s < 0) = false := decide_eq_false (by omega)
        have d2 : decide (N ≤ s) = true := decide_eq_true (by omega)
        clear h' hs
        go_enter Tryz.func83, Tryz.ntmps83
        go_wp2_with fail
        refine (specIsGraph_is (hX.up (by go_grown)) hn H1.out).mono ?_
        rintro e w1 ⟨rfl, hb1⟩
        have hU1 : Up w w1 := Up.then_ (by go_grown) hb1
        have hyb1 := (hbk.up hb1).two
        have hown0 := OwnI.made (base := w1.heap.size) w1 (Nat.le_refl _)
        have hww := hU1.alloc hU1.size (.cells #[] 3)
        go_wp2
        go_ret2
        exact givesIB_none hown0 hU1.size hww
  · obtain rfl : n = k := by rw [← hX.1, ints_len, h.len]
    rw [lexOf_ok h ht]
    obtain ⟨R, hRe⟩ : ∃ R, R = lexR Q n (n - 1) [t] := ⟨_, rfl⟩
    rw [← hRe]
    have HR := Lib.hid hRe.symm
    have h1 := h.pos
    have h7 := h.le
    have Hnx := Lib.hid fun l (hv : natVerts n l) (hl : l.length < n) => bestL_next Q hv hl
    have Hcmp := Lib.hid fun (l : List Nat) (hl : l.length ≤ 7) u v => labK_cmp h hl u v
    have Hone := Lib.hid (one_verts ht)
    have hsh := shl_p2 (k := t) (by omega)
    have H1 := Lib.hid h.is
    have d1 : decide ((t : Int) < 0) = false := decide_eq_false (by omega)
    have d2 : decide ((n : Int) ≤ (t : Int)) = false := decide_eq_false (by omega)
    clear hRe
    go_enter Tryz.func83, Tryz.ntmps83
    go_wp2_with fail
    refine (specIsGraph_is (hX.up (by go_grown)) hn H1.out).mono ?_
    rintro e w1 ⟨rfl, hb1⟩
    have hU1 : Up w w1 := Up.then_ (by go_grown) hb1
    replace hX := hX.up hU1
    have hbk1 := hbk.up hb1
    have hyb1 := hbk1.two
    have hzb1 := fun o => (hbk1.alloc o).two
    have hown0 := lit_own (w := w1) (g := w1.heap.size) rfl (Nat.le_refl _) (t : Int)
    have hbl0 : Below w1.heap.size w1 (w1.alloc (.cells #[.int .i64 (t : Int)] 3)) := by go_grown
    clear hyb hbk
    have hs0 : setN [t] = p2 t := by show setZ [(t : Int)] = _; simp [setZ, p2]
    have HS0 := Lib.hid hs0
    clear hs0
    go_wp2_with fail
    have d2n : decide (n ≤ t) = false := decide_eq_false (by omega)
    rw [d2n, hsh]
    clear hyb1 hzb1 d1 d2 d2n hsh
    go_loopg [6, 7] (n - 1) (fun g v u wr => ∃ (l : List Nat) (A' : Option Addr) (c' : Nat), v = .slice A' l.length c' ∧ u = .int .i64 (setN l : Nat) ∧ OwnI wr w1.heap.size A' l.length c' (ints l) ∧ Below w1.heap.size w1 wr ∧ l.length + g = n ∧ 0 < l.length ∧ Hid (natVerts n l ∧ lexR Q n g l = R))
    case atStart => exact ⟨[t], _, _, rfl, by rw [HS0.out], hown0, hbl0, by simp; omega, by simp, Hone.out, HR.out⟩
    case round =>
      clear hown0 hbl0
      obtain ⟨l, A', c', rfl, rfl, hown, hb, hln, hlp, hlx⟩ := hrel
      obtain ⟨wo, rfl⟩ : ∃ wo : World, wo = wr := ⟨_, rfl⟩
      have hbo := hbk1.up hb
      have hyo := hbo.two
      have hU128 := setN_bit hlx.out.1 h7
      by_cases hlt : l.length < n
      · have hlv := Lib.hid hlx.out.1.1
        have HNx := Lib.hid (Hnx.out l hlx.out.1 hlt)
        have HLx := Lib.hid hlx.out.2
        have hl7 : l.length ≤ 7 := by omega
        have hXo := hX.up hb
        have hLo := hown.ri
        have HB := Lib.hid fun k => testBit_setN l k
        have HC := Lib.hid (Hcmp.out l hl7)
        have Hadd := Lib.hid fun b (hb : b ∉ l) => setN_add (l := l) (v := b) hb
        obtain ⟨U, hUe⟩ : ∃ U, U = setN l := ⟨_, rfl⟩
        rw [← hUe] at hU128 HB Hadd ⊢
        clear hlx hUe
        obtain ⟨bd, rfl, _, _⟩ := hLo.addr hlp
        go_wp2_with fail
        go_loopw [8, 9] (fun b s wr => ∃ k : Nat, k ≤ n ∧ s = .int .i64 k ∧ b = .int .i64 (bestL Q l k) ∧ Up wo wr) (fun _ s _ => n - (intOf s).toNat)
        case atStart => exact ⟨0, Nat.zero_le _, rfl, rfl, Up.refl _⟩
        case round =>
          obtain ⟨k, hk, rfl, rfl, hbk⟩ := hrel
          obtain ⟨wi, rfl⟩ : ∃ wi : World, wi = wr := ⟨_, rfl⟩
          have hbi := hbo.up hbk
          have hyi := hbi.two
          have hli := hbi.lt
          by_cases hkn : k < n
          · have hbit := bit_zero U k (by omega)
            have hkb := HB.out k
            rcases Bool.eq_false_or_eq_true (decide (k ∈ l)) with e1 | e1
            · have HN := Lib.hid (bestL_in (Q := Q) (of_decide_eq_true e1))
              rw [hkb, e1] at hbit
              clear e1 hkb
              go_wp2
              have hV0 : Up wi wi.drew := (Up.refl _).drew
              refine wp_region_calm (S := (fun w' => Up wi w' ∧ (∀ b o, b < wi.heap.size → w'.cell? ⟨b, o, none⟩ = wi.cell? ⟨b, o, none⟩))) (by kernel_rfl) (by kernel_rfl) (by exact ⟨hV0, fun _ _ hb => hV0.cell hb⟩) ?_
              repeat (first | (refine CalmSeq.cons undef (Calm.off (by rfl)) ?_; (try simp only [Act.put, List.setIfInBounds_toArray, List.set_cons_zero, List.set_cons_succ])) | (refine CalmSeq.cons ?_ (Calm.val (by rfl) ?_) ?_; rotate_left; (intro wC hSw; (try dsimp only at hSw); go_simp; done); (try simp only [Act.put, List.setIfInBounds_toArray, List.set_cons_zero, List.set_cons_succ])) | (refine CalmSeq.cons ?_ (Calm.val (by rfl) ?_) ?_; rotate_left; (intro wC hSw; (try dsimp only at hSw); go_simp; with_reducible rfl); (try simp only [Act.put, List.setIfInBounds_toArray, List.set_cons_zero, List.set_cons_succ])))
              intro w1 hS1
              have hU1 : Up wi w1 := hS1.1
              clear hS1 hV0
              go_wp2
              go_roundw
              case rel => exact ⟨k + 1, by omega, by go_num, by rw [HN.out], Up.then_ hbk hU1⟩
              case measure => simp [intOf]; omega
            · have hnm : k ∉ l := of_decide_eq_false e1
              rw [hkb, e1] at hbit
              clear e1 hkb
              rcases bestL_cases Q l k with ⟨hb0, _⟩ | ⟨x, hxk, hxl, hbx⟩
              · have HN := Lib.hid (bestL_more (Q := Q) (k := k) hnm (by rw [hb0, mostL_neg]; omega))
                rw [hb0]
                clear hb0 hnm
                go_wp2
                have hV0 : Up wi wi.drew := (Up.refl _).drew
                refine wp_region_calm (S := (fun w' => Up wi w' ∧ (∀ b o, b < wi.heap.size → w'.cell? ⟨b, o, none⟩ = wi.cell? ⟨b, o, none⟩))) (by kernel_rfl) (by kernel_rfl) (by exact ⟨hV0, fun _ _ hb => hV0.cell hb⟩) ?_
                repeat (first | (refine CalmSeq.cons undef (Calm.off (by rfl)) ?_; (try simp only [Act.put, List.setIfInBounds_toArray, List.set_cons_zero, List.set_cons_succ])) | (refine CalmSeq.cons ?_ (Calm.val (by rfl) ?_) ?_; rotate_left; (intro wC hSw; (try dsimp only at hSw); go_simp; done); (try simp only [Act.put, List.setIfInBounds_toArray, List.set_cons_zero, List.set_cons_succ])) | (refine CalmSeq.cons ?_ (Calm.val (by rfl) ?_) ?_; rotate_left; (intro wC hSw; (try dsimp only at hSw); go_simp; with_reducible rfl); (try simp only [Act.put, List.setIfInBounds_toArray, List.set_cons_zero, List.set_cons_succ])))
                intro w1 hS1
                have hU1 : Up wi w1 := hS1.1
                clear hS1 hV0
                go_wp2
                go_roundw
                case rel => exact ⟨k + 1, by omega, by go_num, by rw [HN.out], Up.then_ hbk hU1⟩
                case measure => simp [intOf]; omega
              · have hcmp := HC.out x k
                rw [hbx]
                have hxn : x < n := by omega
                obtain ⟨p, hp⟩ : ∃ p : Int, p = (labK Q l k 7 : Nat) := ⟨_, rfl⟩
                obtain ⟨q, hq⟩ : ∃ q : Int, q = (labK Q l x 7 : Nat) := ⟨_, rfl⟩
                have Hp := Lib.hid hp.symm
                have Hq := Lib.hid hq.symm
                have dx : decide ((x : Int) < 0) = false := decide_eq_false (by omega)
                have hne : k ≠ x := by omega
                by_cases hlt2 : q < p
                · have HN := Lib.hid (bestL_more (Q := Q) (k := k) hnm (by rw [hbx, mostL_nat]; have := hcmp.1 (by omega); omega))
                  have dq : decide (q < p) = true := decide_eq_true hlt2
                  clear hbx hnm hp hq hcmp hlt2
                  go_wp2
                  have hV0 : Up wi wi.drew := (Up.refl _).drew
                  refine wp_region_calm (S := (fun w' => Up wi w' ∧ (∀ b o, b < wi.heap.size → w'.cell? ⟨b, o, none⟩ = wi.cell? ⟨b, o, none⟩))) (by kernel_rfl) (by kernel_rfl) (by exact ⟨hV0, fun _ _ hb => hV0.cell hb⟩) ?_
                  repeat (first | (refine CalmSeq.cons undef (Calm.off (by rfl)) ?_; (try simp only [Act.put, List.setIfInBounds_toArray, List.set_cons_zero, List.set_cons_succ])) | (refine CalmSeq.cons ?_ (Calm.val (by rfl) ?_) ?_; rotate_left; (intro wC hSw; (try dsimp only at hSw); go_simp; done); (try simp only [Act.put, List.setIfInBounds_toArray, List.set_cons_zero, List.set_cons_succ])) | (refine CalmSeq.cons ?_ (Calm.val (by rfl) ?_) ?_; rotate_left; (intro wC hSw; (try dsimp only at hSw); go_simp; with_reducible rfl); (try simp only [Act.put, List.setIfInBounds_toArray, List.set_cons_zero, List.set_cons_succ])) | ((refine CalmSeq.cons ?_ (Calm.call (f := ?_) (args := ?_) (by rfl) ?_ (fun wC hSw => ?_)) ?_; rotate_left 3; (intro wC; go_simp; (refine ⟨?_, ?_⟩ <;> with_reducible rfl)); (go_at_call_of 138 (Value.int .i64 (k : Int)); (with_reducible refine (l5Label_is ((hXo.up hbk).up hSw.1) ((hLo.up hbk).up hSw.1) h hkn hlv.out hl7 Hp.out).mono ?_); rintro e wD ⟨rfl, hbD⟩; apply And.intro; (with_reducible rfl); (have hUD := Up.then_ hSw.1 hbD; exact ⟨hUD, fun _ _ hb => hUD.cell hb⟩))); (try simp only [Act.put, List.setIfInBounds_toArray, List.set_cons_zero, List.set_cons_succ])) | ((refine CalmSeq.cons ?_ (Calm.call (f := ?_) (args := ?_) (by rfl) ?_ (fun wC hSw => ?_)) ?_; rotate_left 3; (intro wC; go_simp; (refine ⟨?_, ?_⟩ <;> with_reducible rfl)); (go_at_call_of 138 (Value.int .i64 (x : Int)); (with_reducible refine (l5Label_is ((hXo.up hbk).up hSw.1) ((hLo.up hbk).up hSw.1) h hxn hlv.out hl7 Hq.out).mono ?_); rintro e wD ⟨rfl, hbD⟩; apply And.intro; (with_reducible rfl); (have hUD := Up.then_ hSw.1 hbD; exact ⟨hUD, fun _ _ hb => hUD.cell hb⟩))); (try simp only [Act.put, List.setIfInBounds_toArray, List.set_cons_zero, List.set_cons_succ])))
                  intro w1 hS1
                  have hU1 : Up wi w1 := hS1.1
                  clear hS1 hV0
                  go_wp2
                  go_roundw
                  case rel => exact ⟨k + 1, by omega, by go_num, by rw [HN.out], Up.then_ hbk hU1⟩
                  case measure => simp [intOf]; omega
                · have HN := Lib.hid ((bestL_less (Q := Q) (l := l) (k := k) (by rw [hbx, mostL_nat]; intro hh; exact hlt2 (by have := hcmp.2 (by omega); omega))).trans hbx)
                  have dq : decide (q < p) = false := decide_eq_false hlt2
                  clear hbx hnm hp hq hcmp hlt2
                  go_wp2
                  have hV0 : Up wi wi.drew := (Up.refl _).drew
                  refine wp_region_calm (S := (fun w' => Up wi w' ∧ (∀ b o, b < wi.heap.size → w'.cell? ⟨b, o, none⟩ = wi.cell? ⟨b, o, none⟩))) (by kernel_rfl) (by kernel_rfl) (by exact ⟨hV0, fun _ _ hb => hV0.cell hb⟩) ?_
                  repeat (first | (refine CalmSeq.cons undef (Calm.off (by rfl)) ?_; (try simp only [Act.put, List.setIfInBounds_toArray, List.set_cons_zero, List.set_cons_succ])) | (refine CalmSeq.cons ?_ (Calm.val (by rfl) ?_) ?_; rotate_left; (intro wC hSw; (try dsimp only at hSw); go_simp; done); (try simp only [Act.put, List.setIfInBounds_toArray, List.set_cons_zero, List.set_cons_succ])) | (refine CalmSeq.cons ?_ (Calm.val (by rfl) ?_) ?_; rotate_left; (intro wC hSw; (try dsimp only at hSw); go_simp; with_reducible rfl); (try simp only [Act.put, List.setIfInBounds_toArray, List.set_cons_zero, List.set_cons_succ])) | ((refine CalmSeq.cons ?_ (Calm.call (f := ?_) (args := ?_) (by rfl) ?_ (fun wC hSw => ?_)) ?_; rotate_left 3; (intro wC; go_simp; (refine ⟨?_, ?_⟩ <;> with_reducible rfl)); (go_at_call_of 138 (Value.int .i64 (k : Int)); (with_reducible refine (l5Label_is ((hXo.up hbk).up hSw.1) ((hLo.up hbk).up hSw.1) h hkn hlv.out hl7 Hp.out).mono ?_); rintro e wD ⟨rfl, hbD⟩; apply And.intro; (with_reducible rfl); (have hUD := Up.then_ hSw.1 hbD; exact ⟨hUD, fun _ _ hb => hUD.cell hb⟩))); (try simp only [Act.put, List.setIfInBounds_toArray, List.set_cons_zero, List.set_cons_succ])) | ((refine CalmSeq.cons ?_ (Calm.call (f := ?_) (args := ?_) (by rfl) ?_ (fun wC hSw => ?_)) ?_; rotate_left 3; (intro wC; go_simp; (refine ⟨?_, ?_⟩ <;> with_reducible rfl)); (go_at_call_of 138 (Value.int .i64 (x : Int)); (with_reducible refine (l5Label_is ((hXo.up hbk).up hSw.1) ((hLo.up hbk).up hSw.1) h hxn hlv.out hl7 Hq.out).mono ?_); rintro e wD ⟨rfl, hbD⟩; apply And.intro; (with_reducible rfl); (have hUD := Up.then_ hSw.1 hbD; exact ⟨hUD, fun _ _ hb => hUD.cell hb⟩))); (try simp only [Act.put, List.setIfInBounds_toArray, List.set_cons_zero, List.set_cons_succ])))
                  intro w1 hS1
                  have hU1 : Up wi w1 := hS1.1
                  clear hS1 hV0
                  go_wp2
                  go_roundw
                  case rel => exact ⟨k + 1, by omega, by go_num, by rw [HN.out], Up.then_ hbk hU1⟩
                  case measure => simp [intOf]; omega
          · obtain rfl : k = n := by omega
            obtain ⟨b, hbn, hbl, hbe, hbv⟩ := HNx.out
            rw [hbe]
            have hownk := hown.up hbk
            have hcell := (Blk.new wi 3 #[.int .i64 (b : Int)]).one
            have hsz := hb.size
            have hsi := hbk.size
            obtain ⟨g, rfl⟩ : ∃ g, gk = g + 1 := ⟨gk - 1, by omega⟩
            have HLx2 := Lib.hid (show lexR Q k g (l ++ [b]) = R by have := HLx.out; rw [lexR, hbe, Int.toNat_natCast] at this; exact this)
            have Hbv := Lib.hid hbv
            have hadd := Hadd.out b hbl
            have hshb := shl_p2 (k := b) (by omega)
            have hpb := p2_le (k := b) (by omega)
            have HA2 := Lib.hid (show ((U : Int) + (p2 b : Int)) = ((setN (l ++ [b]) : Nat) : Int) by
              rw [← hadd]; show _ = ((U + p2 b : Nat) : Int); omega)
            clear hbe hbl HNx hbv hadd
            go_wp2_with (at_builtin; refine wpList_push rfl (.tmp 60) (.tmp 62) rfl (b : Int) rfl (hownk.alloc _) ⟨wi.heap.size, 0, none⟩ rfl hcell (by omega) (by simp; omega) ?_; intro A7 c7 w7 hown7 hb7 hg7)
            go_roundg g
            case measure => omega
            case rel =>
              exact ⟨l ++ [b], A7, c7, by rw [← push_len], by rw [HA2.out], hown7.cast push_len (by rw [ints_snoc]), ((hb.trans (hbk.mono hsz)).alloc (Nat.le_trans hsz hsi) _).trans hb7, by rw [← push_len]; omega, by simp, Hbv.out, HLx2.out⟩
      · have e : gk = 0 := by omega
        subst e
        have HE := Lib.hid (show l = R from hlx.out.2)
        go_wp2
        go_ret2
        rw [← HE.out]
        exact givesIB_some hown hU1.size (Up.then_ hU1 hb)
end Go.Proofs.YthncdjcmlpiebaaGreat
namespace Go.Proofs.YthncdjcmlpiebaaGreat
open Go.RowKit
set_option maxRecDepth 100000 in
set_option maxHeartbeats 4000000 in
theorem specEliminationOf_any (N : Int) (A : Option Addr) (n c : Nat) (X : List Int) (w : World) (hX : RI w A n X) (hn : n ≤ 9223372036854775807) :
    Calls Tryz.prog 144 #[.agg #[.int .i64 N, .slice A n c]] w (GivesIB (optL (elimOf N X)) (elimOf N X).isSome w) := by
  rcases isGraph_cases N X with hg | ⟨k, Q, rfl, rfl, h⟩
  · rw [elimOf_no hg]
    have H1 := Lib.hid hg
    clear hg
    go_enter Tryz.func144, Tryz.ntmps144
    go_wp2_with fail
    refine (specIsGraph_is (hX.up (by go_grown)) hn H1.out).mono ?_
    rintro e w1 ⟨rfl, hb1⟩
    have hU1 : Up w w1 := Up.then_ (by go_grown) hb1
    have hown0 := ((OwnI.made_at (w := w.alloc (.cells #[.int .i64 N, .slice A n c] 26)) (base := w.heap.size) (g := w.heap.size + 1) (by simp) (by omega)).up hb1)
    go_wp2
    go_ret2
    exact givesIB_none hown0 (Nat.le_refl _) hU1
  · obtain rfl : n = k := by rw [← hX.1, ints_len, h.len]
    rw [elimOf_ok h]
    have hn7 := h.le
    have hn1 := h.pos
    have hpp := p2_le hn7
    have hp1 := p2_pos n
    have hsh := shl_p2 (k := n) (by omega)
    have H2n := Lib.hid (show 2 ^ n = p2 n from rfl)
    have HR := Lib.hid (show 2 ^ n - 1 = p2 n - 1 from rfl)
    rw [HR.out]
    obtain ⟨R, hR⟩ : ∃ R, R = elimR Q 127 [] (p2 n - 1) := ⟨_, rfl⟩
    rw [← hR]
    replace hR := Lib.hid hR.symm
    go_enter Tryz.func144, Tryz.ntmps144
    have hXw := Lib.hid hX
    go_wp2_with fail
    refine (specIsGraph_is (hX.up (by go_grown)) hn h.is).mono ?_
    rintro e w1 ⟨rfl, hb1⟩
    have hU1 : Up w w1 := Up.then_ (by go_grown) hb1
    replace hX := hX.up hU1
    have hown1 := ((OwnI.made_at (w := w.alloc (.cells #[.int .i64 n, .slice A n c] 26)) (base := w.heap.size) (g := w.heap.size + 1) (by simp) (by omega)).up hb1)
    have hblk := ((Blk.new w 26 #[.int .i64 n, .slice A n c]).alloc (.cells #[] 3)).up hb1
    obtain ⟨a, rfl, _, _⟩ := hX.addr h.pos
    have hyb := hblk.two
    go_wp2_with fail
    clear hsh hyb
    go_loopw [4, 5] (fun s l wr => ∃ (acc : List Nat) (A' : Option Addr) (c' f L : Nat), s = .slice A' acc.length c' ∧ l = .int .i64 L ∧ OwnI wr w.heap.size A' acc.length c' (ints acc) ∧ Blk wr w.heap.size 26 #[.int .i64 n, .slice (some a) n c] ∧ Below w.heap.size w wr ∧ acc.length + L ≤ 127 ∧ L ≤ f ∧ L < 2 ^ n ∧ Hid (elimR Q f acc L = R)) (fun _ l _ => (intOf l).toNat)
    case atStart => exact ⟨[], _, _, 127, p2 n - 1, rfl, by go_num, hown1, hblk, hU1, by simp; omega, by omega, by rw [H2n.out]; omega, hR⟩
    case round =>
      clear hX hblk hown1
      obtain ⟨acc, A', c', f, L, rfl, rfl, hown, hblk, hb, hal, hLf, hLn, hel⟩ := hrel
      obtain ⟨wo, rfl⟩ : ∃ wo : World, wo = wr := ⟨_, rfl⟩
      have hX := hXw.out.up hb
      have hL7 : L < 128 := h.n7 hLn
      have Hel := Lib.hid hel.out
      clear hel
      by_cases hL0 : L = 0
      · subst hL0
        have e := Hel.out
        rw [elimR_zero] at e
        go_wp2
        go_ret2
        rw [← e]
        exact givesIB_some hown (Nat.le_refl _) hb
      · obtain ⟨P, hP⟩ : ∃ P : Nat → Bool, P = fun v => L.testBit v && spl Q L v := ⟨_, rfl⟩
        have HP := Lib.hid hP
        clear hP
        have hLp : 0 < L := by omega
        have hyb := hblk.two
        go_wp2_with fail
        go_loopw [6, 7] (fun fd i wr => ∃ j : Nat, j ≤ n ∧ i = .int .i64 ((n : Int) - 1 - j) ∧ fd = .int .i64 (lowK P n j) ∧ Up wo wr) (fun _ i _ => ((intOf i) + 1).toNat)
        case atStart => exact ⟨0, Nat.zero_le _, by go_num, rfl, Up.refl _⟩
        case round =>
          clear hyb
          obtain ⟨j, hj, rfl, rfl, hbj⟩ := hrel
          obtain ⟨wj, rfl⟩ : ∃ wj : World, wj = wr := ⟨_, rfl⟩
          by_cases hjn : j < n
          · obtain ⟨v, hv⟩ : ∃ v : Nat, v = n - (j + 1) := ⟨_, rfl⟩
            have hvn : v < n := by omega
            have hvi : (n : Int) - 1 - j = v := by omega
            rw [hvi]
            have hsub : (n : Int) - 1 - ((j + 1 : Nat) : Int) = (v : Int) - 1 := by omega
            have hXj := hX.up hbj
            have hyb := (hblk.up hbj).two
            have hbit := bit_one L v (by omega)
            rcases Bool.eq_false_or_eq_true (L.testBit v) with e1 | e1
            · rw [e1] at hbit
              rcases Bool.eq_false_or_eq_true (spl Q L v) with e2 | e2
              · have HN := Lib.hid (show lowK P n (j + 1) = v by rw [lowK, ← hv, if_pos (by rw [HP.out]; simp [e1, e2])])
                have E2 := Lib.hid e2
                clear e1 e2 hv
                go_wp2_with (go_at_call 165; refine (l6Simplicial_is (hXj.up (by go_grown)) h hLn hvn E2.out).mono ?_; rintro e w4 ⟨rfl, hb4⟩)
                go_roundw
                case rel => exact ⟨j + 1, by omega, by rw [hsub], by rw [HN.out], Up.then_ hbj hb4⟩
                case measure => first | (simp [intOf]; done) | (simp [intOf]; omega)
              · have HN := Lib.hid (show lowK P n (j + 1) = lowK P n j by rw [lowK, ← hv, if_neg (by rw [HP.out]; simp [e1, e2])])
                have E2 := Lib.hid e2
                clear e1 e2 hv
                go_wp2_with (go_at_call 165; refine (l6Simplicial_is (hXj.up (by go_grown)) h hLn hvn E2.out).mono ?_; rintro e w4 ⟨rfl, hb4⟩)
                go_roundw
                case rel => exact ⟨j + 1, by omega, by rw [hsub], by rw [HN.out], Up.then_ hbj hb4⟩
                case measure => first | (simp [intOf]; done) | (simp [intOf]; omega)
            · rw [e1] at hbit
              have HN := Lib.hid (show lowK P n (j + 1) = lowK P n j by rw [lowK, ← hv, if_neg (by rw [HP.out]; simp [e1])])
              clear e1 hv
              go_wp2
              go_roundw
              case rel => exact ⟨j + 1, by omega, by rw [hsub], by rw [HN.out], hbj⟩
              case measure => first | (simp [intOf]; done) | (simp [intOf]; omega)
          · obtain rfl : j = n := by omega
            have Hc := Lib.hid (lowK_cases P j j (Nat.le_refl _))
            have Hd := Lib.hid hLn
            rcases Hc.out with ⟨hl1, hl2⟩ | ⟨v, hl1, hl2, hl3, hl4, hl5⟩
            · rw [hl1]
              have HE := Lib.hid (elimR_none (f := f) (acc := acc) hL0 hLf (stp_none fun v _ hb => by
                have := hl2 v (by omega) (bit_lt Hd.out hb)
                rw [HP.out] at this
                simpa [hb] using this))
              clear hl1 hl2 Hc
              have hown5 := OwnI.made (base := w.heap.size) wj (Nat.le_trans hb.size hbj.size)
              go_wp2
              go_ret2
              have e := Hel.out
              rw [HE.out] at e
              rw [← e]
              exact givesIB_none hown5 (Nat.le_refl _) ((Up.then_ hb hbj).alloc (Nat.le_trans hb.size hbj.size) _)
            · rw [hl3]
              rw [HP.out] at hl4
              have hbv : L.testBit v = true := by simp at hl4; exact hl4.1
              have hsv : spl Q L v = true := by simp at hl4; exact hl4.2
              have HE := Lib.hid (elimR_some (f := f) (acc := acc) hL0 hLf (stp_some (by omega) hbv hsv fun u hu hbu => by
                have := hl5 u (by omega) hu
                rw [HP.out] at this
                simpa [hbu] using this))
              have hsb := sub_bit hbv
              have hdl := dif_bit_lt hbv
              have hsh := shl_p2 (k := v) (by omega)
              have hpv := p2_le (k := v) (by omega)
              have hvv : (0 : Int) ≤ v := by omega
              have hpe : 2 ^ v = p2 v := rfl
              rw [hpe] at hsb hdl
              have HS := Lib.hid (show (L : Int) - (p2 v : Nat) = ((dif L (p2 v) : Nat) : Int) by rw [← hsb.2]; exact (Int.ofNat_sub hsb.1).symm)
              have hws : wrap64 ((L : Int) - (p2 v : Nat)) = ((dif L (p2 v) : Nat) : Int) := by rw [HS.out]; unfold wrap64; omega
              obtain ⟨f', hf', HE'⟩ := HE.out
              have HE2 := Lib.hid (HE'.symm.trans Hel.out)
              clear HE HE' Hel Hc hl3 hl4 hl5 hbv hsv hpe
              have hcell := (Blk.new wj 3 #[.int .i64 (v : Int)]).one
              have hsz := Nat.le_trans hb.size hbj.size
              go_wp2_with (at_builtin; refine wpList_push rfl (.tmp 41) (.tmp 43) rfl (v : Int) rfl ((hown.up hbj).alloc _) ⟨wj.heap.size, 0, none⟩ rfl hcell (by omega) (by simp; omega) ?_; intro A7 c7 w7 hown7 hb7 hg7)
              go_roundw
              case rel =>
                have hU6 : Up wj (wj.alloc (.cells #[.int .i64 (v : Int)] 3)) := by go_grown
                have hblk7 := ((hown.up hbj).alloc (.cells #[.int .i64 (v : Int)] 3)).keeps hg7 ((hblk.up hbj).alloc _) (by decide)
                have hb8 : Below w.heap.size w w7 := (Up.then_ (Up.then_ hb hbj) hU6).trans hb7
                exact ⟨acc ++ [v], A7, c7, f', dif L (p2 v), by rw [← push_len], by rw [hws], hown7.cast push_len (by rw [ints_snoc]), hblk7, hb8, by rw [← push_len]; omega, by omega, Nat.lt_of_le_of_lt (by omega) hLn, HE2⟩
              case measure => first | (simp [intOf]; done) | (simp [intOf]; omega)
end Go.Proofs.YthncdjcmlpiebaaGreat
namespace Go.Proofs.YthncdjcmlpiebaaGreat
open Go.RowKit
end Go.Proofs.YthncdjcmlpiebaaGreat
namespace Go.Proofs.YthncdjcmlpiebaaGreat
open Go.RowKit
/-- A row of numbers as cells. -/
def intCells (xs : List Int) : Array Value := (xs.map (Value.int .i64)).toArray
set_option maxRecDepth 100000 in
theorem intCells_get {xs : List Int} {j : Nat} (h : j < xs.length) : (intCells xs)[j]? = some (.int .i64 (xs.getD j 0)) := by simp [intCells, List.getD, List.getElem?_eq_getElem h]
set_option maxRecDepth 100000 in
theorem Blk.int {w : World} {g j : Nat} {t : TypeId} {xs : List Int} (h : Blk w g t (intCells xs)) (hj : j < xs.length) : w.cell? ⟨g, j, none⟩ = some (.int .i64 (xs.getD j 0)) := by rw [h.cell, intCells_get hj]
end Go.Proofs.YthncdjcmlpiebaaGreat
namespace Go.Proofs.YthncdjcmlpiebaaGreat
open Go.RowKit
end Go.Proofs.YthncdjcmlpiebaaGreat
namespace Go.Proofs.YthncdjcmlpiebaaGreat
open Go.RowKit
set_option maxRecDepth 100000 in
theorem RI.drop {w : World} {a : Addr} {n k : Nat} {xs : List Int} (h : RI w (some a) n xs) (hk : k ≤ n) : RI w (some (a.add k)) (n - k) (xs.drop k) := by
  refine ⟨by rw [List.length_drop, h.1], fun hn => ⟨a.add k, rfl, fun j hj => ?_⟩⟩
  obtain ⟨ad, e, _, hc⟩ := h.at_ (k := k + j) (by omega)
  injection e with e
  subst e
  rw [add_of_add, hc]
  simp [List.getD]
end Go.Proofs.YthncdjcmlpiebaaGreat
namespace Go.Proofs.YthncdjcmlpiebaaGreat
open Go.RowKit
set_option maxRecDepth 100000 in
set_option maxHeartbeats 2000000 in
theorem specLater_any (N v : Int) (A B : Option Addr) (n c m d : Nat) (X l : List Int) (w : World) (hX : RI w A n X) (hL : RI w B m l) (hn : n ≤ 1048576) (hm : m ≤ 1048576) :
    Calls Tryz.prog 173 #[.agg #[.int .i64 N, .slice A n c], .slice B m d, .int .i64 v] w fun e w' => e = .returned (.int .i64 (laterOf N X l v : Nat)) ∧ Below w.heap.size w w' := by
  have hbk := Blk.new w 26 #[.int .i64 N, .slice A n c]
  rcases isOrder_cases N X l with hg | ⟨hg, k, Q, o, rfl, rfl, rfl, h, ho, hol⟩
  · have H1 := Lib.hid hg
    have HR := Lib.hid (laterOf_no (v := v) hg)
    rw [HR.out]
    clear hg
    go_enter Tryz.func173, Tryz.ntmps173
    go_wp2_with fail
    refine (specIsOrder_is (hX.up (by go_grown)) (hL.up (by go_grown)) (by omega) (by omega) H1.out).mono ?_
    rintro e w1 ⟨rfl, hb1⟩
    have hU1 : Up w w1 := Up.then_ (by go_grown) hb1
    go_wp2
    go_ret
    exact ⟨rfl, hU1⟩
  · have e1 : n = k := by have := hX.1; rw [ints_len, h.len] at this; exact this.symm
    have e2 : m = k := by have := hL.1; rw [ints_len, hol] at this; exact this.symm
    subst e1 e2
    have h7 := h.le
    have h1 := h.pos
    have H1 := Lib.hid hg
    obtain ⟨a, rfl, _, _⟩ := hX.addr h.pos
    obtain ⟨b, rfl, _, _⟩ := hL.addr h.pos
    by_cases hv : 0 ≤ v ∧ v < (m : Int)
    · obtain ⟨x, rfl⟩ : ∃ x : Nat, v = x := ⟨v.toNat, by omega⟩
      have hxm : x < m := by omega
      have HR := Lib.hid (show laterOf m (ints Q) (ints o) x = nb Q x &&& setN (o.drop (place o x)) from laterOf_ok hg hxm)
      rw [HR.out]
      have hmem := ho.all hol hxm
      have hpl := place_lt hmem
      rw [hol] at hpl
      have Hat := Lib.hid (show nb o (place o x) = x from place_at hmem)
      have Hne := Lib.hid (fun j (hj : j < place o x) => place_no ho hmem hj)
      have Hdr := Lib.hid (fun i (hi : i < m) => setN_drop ho (i := i) (by omega))
      have Hall := Lib.hid (show setN (o.drop 0) = p2 m - 1 by rw [List.drop_zero]; exact setN_all ho hol)
      have Hlt := Lib.hid (fun i => (Nat.lt_of_lt_of_le (setN_lt (n := m) fun y (hy : y ∈ o.drop i) => ho.1 y (List.mem_of_mem_drop hy)) (Nat.pow_le_pow_right (n := 2) (by omega) h7) : setN (o.drop i) < 128))
      have Hn := Lib.hid (fun i (hi : i < m) => ho.at_ (j := i) (by omega))
      have hb7 := h.nb7 x
      have hsh := shl_p2 (k := m) (by omega)
      have hpp := p2_le h7
      have hp1 := p2_pos m
      have hsub : wrap64 ((p2 m : Int) - 1) = ((p2 m : Int) - 1) := IntWalk.wrap64_in _ ⟨by omega, by omega⟩
      have Hsub := Lib.hid (show ((p2 m - 1 : Nat) : Int) = (p2 m : Int) - 1 by omega)
      have d1 : decide ((x : Int) < 0) = false := decide_eq_false (by omega)
      have d2 : decide ((m : Int) ≤ (x : Int)) = false := decide_eq_false (by omega)
      have d2n : decide (m ≤ x) = false := decide_eq_false (by omega)
      obtain ⟨p, hp⟩ : ∃ p, p = place o x := ⟨_, rfl⟩
      rw [← hp] at hpl Hat Hne ⊢
      clear hg hmem hp hv
      go_enter Tryz.func173, Tryz.ntmps173
      go_wp2_with fail
      refine (specIsOrder_is (hX.up (by go_grown)) (hL.up (by go_grown)) (by omega) (by omega) H1.out).mono ?_
      rintro e w1 ⟨rfl, hb1⟩
      have hU1 : Up w w1 := Up.then_ (by go_grown) hb1
      replace hX := hX.up hU1
      replace hL := hL.up hU1
      have hyb := (hbk.up hb1).two
      have hcx := hX.nbs hxm
      go_wp2_with fail
      clear hsh hsub
      go_loop [7, 8] (fun u s => ∃ i : Nat, i ≤ p ∧ s = .int .i64 i ∧ u = .int .i64 (setN (o.drop i) : Nat)) (fun _ s => m - (intOf s).toNat)
      case atStart => exact ⟨0, Nat.zero_le _, rfl, by rw [Hall.out, Hsub.out]⟩
      case round =>
        obtain ⟨i, hi, rfl, rfl⟩ := hrel
        have him : i < m := by omega
        have hci := hL.nbs him
        have hyn := Hn.out i him
        have hs7 := Hlt.out i
        have hdr := Hdr.out i him
        have dl : decide ((i : Int) < (m : Int)) = true := decide_eq_true (by omega)
        by_cases hip : i < p
        · have hne := Hne.out i hip
          obtain ⟨y, hy⟩ : ∃ y, y = nb o i := ⟨_, rfl⟩
          rw [← hy] at hci hyn hdr hne
          clear hy
          have hneI : ((y : Int) != (x : Int)) = true := by rw [bne_iff_ne]; omega
          have hshy := shl_p2 (k := y) (by omega)
          obtain ⟨U, hU⟩ : ∃ U, U = setN (o.drop i) := ⟨_, rfl⟩
          rw [← hU] at hs7 hdr ⊢
          obtain ⟨V, hV⟩ : ∃ V, V = setN (o.drop (i + 1)) := ⟨_, rfl⟩
          rw [← hV] at hdr
          have HV := Lib.hid hV
          clear hU hV
          have hd2 : V + p2 y = U := hdr
          have HS := Lib.hid (show wrap64 ((U : Int) - (p2 y : Int)) = (V : Int) by rw [IntWalk.wrap64_in _ ⟨by omega, by omega⟩]; omega)
          have HS2 := Lib.hid (show (U : Int) - (p2 y : Int) = (V : Int) by omega)
          clear hdr hd2
          go_wp2
          go_round
          case rel => exact ⟨i + 1, by omega, by go_num, by rw [← HV.out]; first | rw [HS.out] | rw [HS2.out]⟩
          case measure => simp [intOf]; omega
        · obtain rfl : i = p := by omega
          rw [Hat.out] at hci
          have hneI : ((x : Int) != (x : Int)) = false := by simp
          have hand := i64_and7 hb7 hs7
          obtain ⟨U, hU⟩ : ∃ U, U = setN (o.drop i) := ⟨_, rfl⟩
          rw [← hU] at hs7 hand ⊢
          have HU := Lib.hid hU
          clear hU hdr
          go_wp2
          go_ret
          rw [← HU.out]
          exact ⟨rfl, hU1⟩
    · have HR := Lib.hid (laterOf_out (X := ints Q) (l := ints o) hv)
      rw [HR.out]
      clear hg
      rcases Int.lt_or_le v 0 with h' | h'
      · have d1 : decide (v < 0) = true := decide_eq_true h'
        clear hv h'
        go_enter Tryz.func173, Tryz.ntmps173
        go_wp2_with fail
        refine (specIsOrder_is (hX.up (by go_grown)) (hL.up (by go_grown)) (by omega) (by omega) H1.out).mono ?_
        rintro e w1 ⟨rfl, hb1⟩
        have hU1 : Up w w1 := Up.then_ (by go_grown) hb1
        go_wp2
        go_ret
        exact ⟨rfl, hU1⟩
      · have d1 : decide (v < 0) = false := decide_eq_false (by omega)
        have d2 : decide ((m : Int) ≤ v) = true := decide_eq_true (by omega)
        clear hv h'
        go_enter Tryz.func173, Tryz.ntmps173
        go_wp2_with fail
        refine (specIsOrder_is (hX.up (by go_grown)) (hL.up (by go_grown)) (by omega) (by omega) H1.out).mono ?_
        rintro e w1 ⟨rfl, hb1⟩
        have hU1 : Up w w1 := Up.then_ (by go_grown) hb1
        have hyb := (hbk.up hb1).two
        go_wp2
        go_ret
        exact ⟨rfl, hU1⟩
set_option maxRecDepth 100000 in
theorem specLater_is {N v : Int} {A B : Option Addr} {n c m d s : Nat} {X l : List Int} {w : World} (hX : RI w A n X) (hL : RI w B m l) (hn : n ≤ 1048576) (hm : m ≤ 1048576) (hs : laterOf N X l v = s) :
    Calls Tryz.prog 173 #[.agg #[.int .i64 N, .slice A n c], .slice B m d, .int .i64 v] w fun e w' => e = .returned (.int .i64 (s : Nat)) ∧ Below w.heap.size w w' := by
  subst hs; exact specLater_any N v A B n c m d X l w hX hL hn hm
end Go.Proofs.YthncdjcmlpiebaaGreat
