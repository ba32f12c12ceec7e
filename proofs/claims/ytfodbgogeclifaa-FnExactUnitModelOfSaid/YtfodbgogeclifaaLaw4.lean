/- The marks that a law lays into structs, and their reading. -/
import Derived.Test.YtfodbgogeclifaaLaw3
namespace Go.Proofs.Ytfodbgogeclifaa
open Go.RowKit
set_option maxRecDepth 100000
theorem grown_of_up {B : Nat} {w w' : World} {row : Option Nat} (hb : Below B w w') (hB : w.heap.size ≤ B) : w.grownBy w' row := ⟨hb.os, hb.tape, hb.output, Nat.le_trans (by exact Nat.le_refl _) hb.size, fun i hi _ => hb.block i (Nat.lt_of_lt_of_le hi hB)⟩
theorem markIntervals_any (A B : Option Addr) (n m c d k bA bB : Nat) (xs ys : List Int) (w : World) (h : OwnI w bA A n c xs) (h' : OwnI w bB B m d ys) (hne : ∀ j, (Value.slice A n c).ownBlock = some j → (Value.slice B m d).ownBlock ≠ some j) (hk : k ≤ 2097152) (hn : n ≤ 1048576) (hm : m ≤ 1048576) :
    Calls Try.prog 21 #[.agg #[.slice A n c, .slice B m d], .int .i64 k] w fun e w' => e = .returned (.int .i64 ((k + n + m : Nat) : Int)) ∧ OwnI w' bA A n c (marks k n) ∧ OwnI w' bB B m d (marks (k + n) m) ∧ ∃ wm, w.grownBy wm (Value.slice A n c).ownBlock ∧ wm.grownBy w' (Value.slice B m d).ownBlock := by
  go_enter Try.func21, Try.ntmps21
  have hbx := Blk.new w 24 #[.slice A n c, .slice B m d]
  go_wp2_with fail
  refine (markIntS_any A n c k bA xs _ (h.alloc _) (by omega) hn).mono ?_
  rintro e w1 ⟨rfl, hown, hg⟩
  have hgg := (World.grownBy_alloc w (.cells #[.slice A n c, .slice B m d] 24) (Value.slice A n c).ownBlock).trans hg
  replace h' := h'.kept hgg (by
    rcases hv : (Value.slice B m d).ownBlock with _ | g
    · exact .inl rfl
    · exact .inr (fun e => hne g e.symm hv))
  replace hbx := hbx.grown hg (fun e => by have := (h.block _ e.symm).2; omega)
  have hyx := hbx.two
  have hlx := hbx.lt
  go_wp2_with fail
  refine (markIntS_any B m d (k + n) bB ys _ h' (by omega) hm).mono ?_
  rintro e w2 ⟨rfl, hown2, hg2⟩
  replace hown := hown.kept hg2 (by
    rcases hv : (Value.slice A n c).ownBlock with _ | g
    · exact .inl rfl
    · exact .inr (fun e => hne g hv e.symm))
  go_wp2
  go_ret
  exact ⟨rfl, hown, hown2, w1, hgg, hg2⟩
theorem markTree_any (A B : Option Addr) (n m c d k bA bB : Nat) (xs ys : List Int) (w : World) (h : OwnI w bA A n c xs) (h' : OwnI w bB B m d ys) (hne : ∀ j, (Value.slice A n c).ownBlock = some j → (Value.slice B m d).ownBlock ≠ some j) (hk : k ≤ 2097152) (hn : n ≤ 1048576) (hm : m ≤ 1048576) :
    Calls Try.prog 47 #[.agg #[.slice A n c, .slice B m d], .int .i64 k] w fun e w' => e = .returned (.int .i64 ((k + n + m : Nat) : Int)) ∧ OwnI w' bA A n c (marks k n) ∧ OwnI w' bB B m d (marks (k + n) m) ∧ ∃ wm, w.grownBy wm (Value.slice A n c).ownBlock ∧ wm.grownBy w' (Value.slice B m d).ownBlock := by
  go_enter Try.func47, Try.ntmps47
  have hbx := Blk.new w 59 #[.slice A n c, .slice B m d]
  go_wp2_with fail
  refine (markIntS_any A n c k bA xs _ (h.alloc _) (by omega) hn).mono ?_
  rintro e w1 ⟨rfl, hown, hg⟩
  have hgg := (World.grownBy_alloc w (.cells #[.slice A n c, .slice B m d] 59) (Value.slice A n c).ownBlock).trans hg
  replace h' := h'.kept hgg (by
    rcases hv : (Value.slice B m d).ownBlock with _ | g
    · exact .inl rfl
    · exact .inr (fun e => hne g e.symm hv))
  replace hbx := hbx.grown hg (fun e => by have := (h.block _ e.symm).2; omega)
  have hyx := hbx.two
  have hlx := hbx.lt
  go_wp2_with fail
  refine (markIntS_any B m d (k + n) bB ys _ h' (by omega) hm).mono ?_
  rintro e w2 ⟨rfl, hown2, hg2⟩
  replace hown := hown.kept hg2 (by
    rcases hv : (Value.slice A n c).ownBlock with _ | g
    · exact .inl rfl
    · exact .inr (fun e => hne g hv e.symm))
  go_wp2
  go_ret
  exact ⟨rfl, hown, hown2, w1, hgg, hg2⟩
theorem heldGraph_any (N : Int) (A : Option Addr) (n c k : Nat) (w : World) (h : RI w A n (marks k n)) (hk : k ≤ 4194304) (hn : n ≤ 1048576) :
    Calls Try.prog 48 #[.agg #[.int .i64 N, .slice A n c], .int .i64 k] w fun e w' => e = .returned (.int .i64 ((k + n : Nat) : Int)) ∧ Below w.heap.size w w' := by
  go_enter Try.func48, Try.ntmps48
  go_wp2_with fail
  refine (heldIntS_any A n c k _ (h.up (by go_grown)) hk hn).mono ?_
  rintro e w1 ⟨rfl, hb1⟩
  have hU : Up w w1 := Up.then_ (by go_grown) hb1
  go_wp2
  go_ret
  exact ⟨rfl, hU⟩
theorem markGraph_own (N : Int) (A : Option Addr) (n c k base : Nat) (xs : List Int) (w : World) (h : OwnI w base A n c xs) (hk : k ≤ 4194304) (hn : n ≤ 1048576) :
    Calls Try.prog 39 #[.agg #[.int .i64 N, .slice A n c], .int .i64 k] w fun e w' => e = .returned (.int .i64 ((k + n : Nat) : Int)) ∧ OwnI w' base A n c (marks k n) ∧ w.grownBy w' (Value.slice A n c).ownBlock := by
  go_enter Try.func39, Try.ntmps39
  go_wp2_with fail
  refine (markIntS_any A n c k base xs _ (h.alloc _) hk hn).mono ?_
  rintro e w1 ⟨rfl, hown, hg⟩
  have hgg := (World.grownBy_alloc w (.cells #[.int .i64 N, .slice A n c] 45) (Value.slice A n c).ownBlock).trans hg
  go_wp2
  go_ret
  exact ⟨rfl, hown, hgg⟩
theorem heldIntervals_any (A B : Option Addr) (n m c d k : Nat) (w : World) (h : RI w A n (marks k n)) (h' : RI w B m (marks (k + n) m)) (hk : k ≤ 2097152) (hn : n ≤ 1048576) (hm : m ≤ 1048576) :
    Calls Try.prog 22 #[.agg #[.slice A n c, .slice B m d], .int .i64 k] w fun e w' => e = .returned (.int .i64 ((k + n + m : Nat) : Int)) ∧ Below w.heap.size w w' := by
  go_enter Try.func22, Try.ntmps22
  have hbx := Blk.new w 24 #[.slice A n c, .slice B m d]
  go_wp2_with fail
  refine (heldIntS_any A n c k _ (h.up (by go_grown)) (by omega) hn).mono ?_
  rintro e w1 ⟨rfl, hb1⟩
  have hU : Up w w1 := Up.then_ (by go_grown) hb1
  replace hbx := hbx.up hb1
  have hyx := hbx.two
  have hlx := hbx.lt
  go_wp2_with fail
  refine (heldIntS_any B m d (k + n) _ (h'.up hU) (by omega) hm).mono ?_
  rintro e w2 ⟨rfl, hb2⟩
  have hU2 := Up.then_ hU hb2
  go_wp2
  go_ret
  exact ⟨rfl, hU2⟩