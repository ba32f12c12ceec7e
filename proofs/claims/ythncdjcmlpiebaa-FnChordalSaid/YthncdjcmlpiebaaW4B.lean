/- Walks of chapter 4: is it an obstacle to a model by intervals? Walks of chapter 4: claws, the reference's; is it an obstacle to a proper model? Walks of chapter 4: the first claw, the program's search. Walks of chapter 4: the first hole, the program's search. Walks of chapter 4: FindClaw, FindHole, the program's. -/
import Derived.Test.YthncdjcmlpiebaaW4A
import Derived.Test.YthncdjcmlpiebaaW11B
import Derived.Test.YthncdjcmlpiebaaW12A
namespace Go.Proofs.Ythncdjcmlpiebaa
open Go.RowKit
def isIvObs (N : Int) (X l : List Int) : Bool := isHoleL N X l || (decide (l.length = 3) && isTrip N X (l.getD 0 0) (l.getD 1 0) (l.getD 2 0))
theorem specIsHole_is {N : Int} {A B : Option Addr} {n c m d : Nat} {X l : List Int} {w : World} {r : Bool} (hX : RI w A n X) (hL : RI w B m l) (hn : n ≤ 9223372036854775807) (hm : m ≤ 9223372036854775807) (hr : isHoleL N X l = r) :
    Calls Try.prog 101 #[.agg #[.int .i64 N, .slice A n c], .slice B m d] w fun e w' => e = .returned (.bool r) ∧ Below w.heap.size w w' := by
  subst hr; exact specIsHole_any N A B n c m d X l w hX hL hn hm
end Go.Proofs.Ythncdjcmlpiebaa
namespace Go.Proofs.Ythncdjcmlpiebaa
open Go.RowKit
theorem claw4 (Q : List Nat) (a b c d : Nat) : joinedP Q [a, b, c, d] jClaw = (edge Q a b && edge Q a c && edge Q a d && !edge Q b c && !edge Q b d && !edge Q c d) := by
  have e : joinedP Q [a, b, c, d] jClaw = ((edge Q a b == true) && ((edge Q a c == true) && (edge Q b c == false)) && ((edge Q a d == true) && (edge Q b d == false) && (edge Q c d == false))) := by
    simp [joinedP, List.range_succ, jClaw, nb, Bool.and_assoc]
  rw [e]
  generalize edge Q a b = e1
  generalize edge Q a c = e2
  generalize edge Q a d = e3
  generalize edge Q b c = e4
  generalize edge Q b d = e5
  generalize edge Q c d = e6
  cases e1 <;> cases e2 <;> cases e3 <;> cases e4 <;> cases e5 <;> cases e6 <;> rfl
/-- Four cells that lie one behind the other. -/
structure Cell4 (w : World) (ad : Addr) (a b c d : Nat) : Prop where
  habs : ad.block < w.heap.size
  c0 : w.cell? ad = some (.int .i64 (a : Nat))
  c1 : w.cell? ⟨ad.block, ad.off + 1, none⟩ = some (.int .i64 (b : Nat))
  c2 : w.cell? ⟨ad.block, ad.off + 2, none⟩ = some (.int .i64 (c : Nat))
  c3 : w.cell? ⟨ad.block, ad.off + 3, none⟩ = some (.int .i64 (d : Nat))
theorem Cell4.of {w : World} {ad : Addr} {a b c d : Nat} (h : RI w (some ad) 4 (ints [a, b, c, d])) : Cell4 w ad a b c d := by
  have c0 := h.nbs (k := 0) (by omega)
  have c1 := h.nbs (k := 1) (by omega)
  have c2 := h.nbs (k := 2) (by omega)
  have c3 := h.nbs (k := 3) (by omega)
  rw [add_zero_] at c0
  obtain ⟨_, e, hb, _⟩ := h.addr (by omega)
  injection e with e
  subst e
  exact ⟨hb, c0, c1, c2, c3⟩
def isPrObs (N : Int) (X l : List Int) : Bool := isClawL N X l || isIvObs N X l
end Go.Proofs.Ythncdjcmlpiebaa
namespace Go.Proofs.Ythncdjcmlpiebaa
open Go.RowKit
/-- What the program's search gives: a new row, or nil. -/
def GivesN4 (r : Option (List Nat)) (w : World) (e : Ending) (w' : World) : Prop :=
  (match r with
   | some q => ∃ g c, e = .returned (.slice (some ⟨g, 0, none⟩) q.length c) ∧ OwnI w' w.heap.size (some ⟨g, 0, none⟩) q.length c (ints q)
   | none => e = .returned (.slice none 0 0)) ∧ Below w.heap.size w w'
def CAt (N : Int) (X : List Int) (m : Nat) : Option (List Nat) := if isGraph N X then srch (yes) (holdsC N.toNat (X.map Int.toNat)) N.toNat m [] else none
theorem CAt_no {N : Int} {X : List Int} {m : Nat} (h : isGraph N X = false) : CAt N X m = none := by rw [CAt, h]; rfl
theorem CAt_ok {n m : Nat} {Q : List Nat} (h : GOk n Q) : CAt n (ints Q) m = srch (yes) (holdsC n Q) n m [] := by rw [CAt, if_pos h.is, nats_ints4, Int.toNat_natCast]
end Go.Proofs.Ythncdjcmlpiebaa
namespace Go.Proofs.Ythncdjcmlpiebaa
open Go.RowKit
def HAt (N : Int) (X : List Int) (m : Nat) : Option (List Nat) := if isGraph N X then srch (mayH N.toNat (X.map Int.toNat) m) (holdsH N.toNat (X.map Int.toNat)) N.toNat m [] else none
theorem HAt_no {N : Int} {X : List Int} {m : Nat} (h : isGraph N X = false) : HAt N X m = none := by rw [HAt, h]; rfl
theorem HAt_ok {n m : Nat} {Q : List Nat} (h : GOk n Q) : HAt n (ints Q) m = srch (mayH n Q m) (holdsH n Q) n m [] := by rw [HAt, if_pos h.is, nats_ints4, Int.toNat_natCast]
end Go.Proofs.Ythncdjcmlpiebaa
namespace Go.Proofs.Ythncdjcmlpiebaa
open Go.RowKit
end Go.Proofs.Ythncdjcmlpiebaa
