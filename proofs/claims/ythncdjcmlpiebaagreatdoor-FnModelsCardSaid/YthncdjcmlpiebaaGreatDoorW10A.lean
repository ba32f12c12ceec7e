/- Walks of chapter 10: sets that follow one another. Walks of chapter 10: the reference's search for orders of cliques. -/
import Derived.Test.YthncdjcmlpiebaaGreatDoorW12A
import Derived.Test.YthncdjcmlpiebaaGreatDoorPure10c
import Derived.Test.YthncdjcmlpiebaaGreatDoorW7A
import Derived.Test.YthncdjcmlpiebaaGreatDoorW6b
import Derived.Test.YthncdjcmlpiebaaGreatDoorW6
import Derived.Deep.LoopGhost
import Derived.Deep.RegionLaw
namespace Go.Proofs.YthncdjcmlpiebaaGreatDoor
open Go.RowKit
set_option maxRecDepth 100000 in
theorem RI.ints_at {w : World} {A : Option Addr} {m k : Nat} {o : List Nat} (h : RI w A m (ints o)) (hk : k < m) : ∃ ad, A = some ad ∧ w.cell? (ad.add k) = some (.int .i64 (nb o k)) := by
  obtain ⟨a, e, _, hc⟩ := h.at_ hk
  rw [ints_nb] at hc
  exact ⟨a, e, hc⟩
set_option maxRecDepth 100000 in
set_option maxHeartbeats 1000000 in
theorem follow_any (A : Option Addr) (m c : Nat) (o : List Nat) (w : World) (hL : RI w A m (ints o)) (ho : ∀ x ∈ o, x < 2 ^ 7) (hm : m ≤ 9223372036854775807) :
    Calls Tryz.prog 144 #[.slice A m c] w fun e w' => e = .returned (.bool (fol o)) ∧ w = w' := by
  have HX := Lib.hid (show o.length = m by rw [← hL.1, ints_len])
  have HS := Lib.hid (seenK_lt ho)
  have HLa := Lib.hid (lastK_lt ho)
  have HB := Lib.hid (nb_lt_all (Nat.two_pow_pos 7) ho)
  clear ho
  go_enter Tryz.func144, Tryz.ntmps144
  go_wp2
  go_loop [3, 4, 9] (fun s l i => ∃ k : Nat, k ≤ m ∧ i = .int .i64 k ∧ s = .int .i64 (seenK o k : Nat) ∧ l = .int .i64 (lastK o k : Nat) ∧ Hid (∀ j, j < k → folAt o j = true)) (fun _ _ i => m - (intOf i).toNat)
  case atStart => exact ⟨0, Nat.zero_le _, rfl, rfl, rfl, fun j h => absurd h (by omega)⟩
  case round =>
    obtain ⟨k, hk, rfl, rfl, rfl, hall⟩ := hrel
    by_cases hlt : k < m
    · obtain ⟨a, rfl, hca⟩ := hL.ints_at hlt
      have hs7 : seenK o k < 128 := HS.out k
      have hl7 : lastK o k < 128 := HLa.out k
      have hx7 : nb o k < 128 := HB.out k
      have HE := Lib.hid (show folAt o k = (dif (nb o k &&& seenK o k) (lastK o k) == 0) ∧ seenK o (k + 1) = seenK o k ||| nb o k ∧ lastK o (k + 1) = nb o k from ⟨rfl, rfl, rfl⟩)
      obtain ⟨s, hs⟩ : ∃ s, s = seenK o k := ⟨_, rfl⟩
      obtain ⟨l, hl⟩ : ∃ l, l = lastK o k := ⟨_, rfl⟩
      obtain ⟨x, hx⟩ : ∃ x, x = nb o k := ⟨_, rfl⟩
      rw [← hs, ← hl, ← hx] at HE
      rw [← hs] at hs7
      rw [← hl] at hl7
      rw [← hx] at hx7 hca
      have hand := i64_and7 hx7 hs7
      have hy7 : x &&& s < 128 := Nat.lt_of_le_of_lt Nat.and_le_left hx7
      obtain ⟨y, hy⟩ : ∃ y, y = x &&& s := ⟨_, rfl⟩
      rw [← hy] at hand hy7 HE
      have hdif := i64_dif7 hy7 hl7
      have hor := i64_or7 hs7 hx7
      obtain ⟨z, hz⟩ : ∃ z, z = dif y l := ⟨_, rfl⟩
      obtain ⟨s', hs'⟩ : ∃ s', s' = s ||| x := ⟨_, rfl⟩
      rw [← hz] at hdif HE
      rw [← hs'] at hor HE
      rw [← hs, ← hl]
      clear hs hl hx hy hz hs'
      by_cases e : z = 0
      · have h1 : ((z : Int) != 0) = false := by rw [e]; rfl
        have HA := Lib.hid (show folAt o k = true by rw [HE.out.1, e]; rfl)
        clear e
        go_wp2
        go_round
        case rel => exact ⟨k + 1, by omega, by go_num, by rw [HE.out.2.1], by rw [HE.out.2.2], fun j hj => by
          rcases Nat.lt_succ_iff_lt_or_eq.1 hj with h' | rfl
          · exact hall.out j h'
          · exact HA.out⟩
        case measure => simp [intOf]; omega
      · have h1 : ((z : Int) != 0) = true := by rw [bne_iff_ne]; omega
        have HA := Lib.hid (fol_false (l := o) (k := k) (by rw [HX.out]; exact hlt) (by rw [HE.out.1, beq_eq_false_iff_ne]; exact e))
        clear e
        go_wp2
        go_ret
        exact ⟨ret_bool HA.out.symm, rfl⟩
    · obtain rfl : k = m := by omega
      have HR := Lib.hid (fol_true (l := o) (by rw [HX.out]; exact hall.out))
      go_wp2
      go_ret
      exact ⟨ret_bool HR.out.symm, rfl⟩
set_option maxRecDepth 100000 in
theorem follow_is {A : Option Addr} {m c : Nat} {o : List Nat} {w : World} {b : Bool} (hL : RI w A m (ints o)) (ho : ∀ x ∈ o, x < 2 ^ 7) (hm : m ≤ 9223372036854775807) (hb : fol o = b) :
    Calls Tryz.prog 144 #[.slice A m c] w fun e w' => e = .returned (.bool b) ∧ w = w' := by
  subst hb; exact follow_any A m c o w hL ho hm
end Go.Proofs.YthncdjcmlpiebaaGreatDoor
namespace Go.Proofs.YthncdjcmlpiebaaGreatDoor
open Go.RowKit
set_option maxRecDepth 100000 in
theorem head_nil {xs ys : List (List Nat)} (h : xs = []) : (xs ++ ys).head?.getD [] = ys.head?.getD [] := by rw [h]; rfl
set_option maxRecDepth 100000 in
theorem head_cons {xs ys : List (List Nat)} (h : 0 < xs.length) : (xs ++ ys).head?.getD [] = xs.head?.getD [] := by
  rcases xs with _ | ⟨a, t⟩
  · simp at h
  · rfl
set_option maxRecDepth 100000 in
theorem stepO {xs ys : List (List Nat)} {nk most r : Nat} (h : xs.length = nk) (hn : nk < most) (hr : r = most - nk) : nk + min ys.length r = min (xs ++ ys).length most := by
  rw [List.length_append, h, hr]; omega
/-- What the reference's search gives: the first order, and how many there are, up to most. -/
def GivesO (os : List (List Nat)) (most base : Nat) (w : World) (e : Ending) (w' : World) : Prop :=
  ∃ A c, e = .returned (.tuple #[.slice A (os.head?.getD []).length c, .int .i64 (min os.length most : Nat)]) ∧ OwnI w' base A (os.head?.getD []).length c (ints (os.head?.getD [])) ∧ Below w.heap.size w w'
def cliqOrds (N : Int) (X : List Int) : List (List Nat) := if (elimOf N X).isSome then ords (maxCliquesOf N X) (maxCliquesOf N X).length [] else []
set_option maxRecDepth 100000 in
theorem cliqOrds_no {N : Int} {X : List Int} (h : (elimOf N X).isSome = false) : cliqOrds N X = [] := by rw [cliqOrds, h]; rfl
set_option maxRecDepth 100000 in
theorem cliqOrds_yes {N : Int} {X : List Int} (h : (elimOf N X).isSome = true) : cliqOrds N X = ords (maxCliquesOf N X) (maxCliquesOf N X).length [] := by rw [cliqOrds, if_pos h]
set_option maxRecDepth 100000 in
/-- A chordal graph is a graph, and has cliques. -/
theorem chordal_cases {N : Int} {X : List Int} (h : (elimOf N X).isSome = true) : ∃ (n : Nat) (Q : List Nat), N = n ∧ X = ints Q ∧ GOk n Q ∧ maxCliquesOf N X = maxCliques Q n := by
  rcases isGraph_cases N X with hg | ⟨k, Q, rfl, rfl, hk⟩
  · rw [elimOf_no hg] at h; cases h
  · exact ⟨k, Q, rfl, rfl, hk, maxCliquesOf_ok hk⟩
set_option maxRecDepth 100000 in
theorem cliques_ok {N : Int} {X : List Int} (h : (elimOf N X).isSome = true) : (∀ x ∈ maxCliquesOf N X, x < 2 ^ 7) ∧ 0 < (maxCliquesOf N X).length ∧ (maxCliquesOf N X).length ≤ 128 := by
  obtain ⟨n, Q, rfl, rfl, hk, e⟩ := chordal_cases h
  rw [e]
  exact ⟨fun x hx => hk.n7 (maxCliques_lt hx), maxCliques_pos hk, maxCliques_len Q hk.le⟩
set_option maxRecDepth 100000 in
theorem implIsChordal_is {N : Int} {A : Option Addr} {n c : Nat} {X : List Int} {w : World} {b : Bool} (hX : RI w A n X) (hn : n ≤ 9223372036854775807) (hb : (elimOf N X).isSome = b) :
    Calls Tryz.prog 79 #[.agg #[.int .i64 N, .slice A n c]] w fun e w' => e = .returned (.bool b) ∧ Below w.heap.size w w' := by
  subst hb
  go_enter Tryz.func79, Tryz.ntmps79
  go_wp2_with fail
  refine (implEliminationOf_any N A n c X _ (hX.up (by go_grown)) hn).mono ?_
  rintro e w1 ⟨A1, c1, rfl, hown, hb1⟩
  have hU1 : Up w w1 := Up.then_ (by go_grown) hb1
  go_wp2
  go_ret
  exact ⟨rfl, hU1⟩
set_option maxRecDepth 100000 in
theorem specIsChordal_is {N : Int} {A : Option Addr} {n c : Nat} {X : List Int} {w : World} {b : Bool} (hX : RI w A n X) (hn : n ≤ 9223372036854775807) (hb : (elimOf N X).isSome = b) :
    Calls Tryz.prog 36 #[.agg #[.int .i64 N, .slice A n c]] w fun e w' => e = .returned (.bool b) ∧ Below w.heap.size w w' := by
  subst hb
  go_enter Tryz.func36, Tryz.ntmps36
  go_wp2_with fail
  refine (specEliminationOf_any N A n c X _ (hX.up (by go_grown)) hn).mono ?_
  rintro e w1 ⟨A1, c1, rfl, hown, hb1⟩
  have hU1 : Up w w1 := Up.then_ (by go_grown) hb1
  go_wp2
  go_ret
  exact ⟨rfl, hU1⟩
end Go.Proofs.YthncdjcmlpiebaaGreatDoor
