/- Walks of chapter 12: the first umbrella order, the program's search. -/
import Derived.Test.YtlcmfangecbdgaaW12s
import Derived.Test.YtlcmfangecbdgaaSlc
import Derived.Laws.EntriesVeiled
namespace Go.Proofs.Ytlcmfangecbdgaa
open Go.RowKit
theorem always_any (v : Value) (w : World) : Calls Try.prog 99 #[v] w fun e w' => e = .returned (.bool true) ∧ w = w' := by
  go_enter Try.func99, Try.ntmps99
  go_wp2
  go_ret
  exact ⟨rfl, rfl⟩
/-- The first umbrella order, whatever the arguments. -/
def umbOf (N : Int) (X : List Int) : Option (List Nat) := if isGraph N X then srch (umb (X.map Int.toNat)) yes N.toNat N.toNat [] else none
theorem umbOf_no {N : Int} {X : List Int} (h : isGraph N X = false) : umbOf N X = none := by rw [umbOf, h]; rfl
theorem umbOf_ok {n : Nat} {Q : List Nat} (h : GOk n Q) : umbOf n (ints Q) = srch (umb Q) yes n n [] := by rw [umbOf, if_pos h.is, nats_ints4, Int.toNat_natCast]
theorem givesIB_some {q : List Nat} {w w' : World} {A : Option Addr} {c base : Nat} (h : OwnI w' base A q.length c (ints q)) (hbase : w.heap.size ≤ base) (hb : Below w.heap.size w w') : GivesIB (ints q) true w (.returned (.tuple #[.slice A q.length c, .bool true])) w' := by
  have e := ints_len q
  exact ⟨A, c, by rw [e], (h.cast e.symm rfl).more hbase, hb⟩
theorem givesIB_none {w w' : World} {A : Option Addr} {c base : Nat} (h : OwnI w' base A 0 c []) (hbase : w.heap.size ≤ base) (hb : Below w.heap.size w w') : GivesIB [] false w (.returned (.tuple #[.slice A 0 c, .bool false])) w' :=
  ⟨A, c, rfl, h.more hbase, hb⟩
/-- The results of a search as a list and a flag. -/
def optL (r : Option (List Nat)) : List Int := ints (r.getD [])
theorem GivesR.ib {r : Option (List Nat)} {base : Nat} {w : World} {e : Ending} {w' : World} (h : GivesR r base w e w') (hb : w.heap.size ≤ base) : GivesIB (optL r) r.isSome w e w' := by
  obtain ⟨A, c, rfl, hown, hbl⟩ := h
  have e := ints_len (r.getD [])
  exact ⟨A, c, by rw [optL, e], (hown.cast e.symm rfl).more hb, hbl⟩
theorem GivesIB.up {xs : List Int} {b : Bool} {w0 w : World} {e : Ending} {w' : World} (h : GivesIB xs b w e w') (hb : Up w0 w) : GivesIB xs b w0 e w' := by
  obtain ⟨A, c, h1, h2, h3⟩ := h
  exact ⟨A, c, h1, h2.more hb.size, Up.then_ hb h3⟩