/- Walks of chapter 4: is it an obstacle to a model by intervals? Walks of chapter 4: claws, the reference's; is it an obstacle to a proper model? Walks of chapter 4: the first claw, the program's search. Walks of chapter 4: the first hole, the program's search. Walks of chapter 4: FindClaw, FindHole, the program's. -/
import Derived.Test.YthncdjcmlpiebaaGreatQi04
import Derived.Test.YthncdjcmlpiebaaGreatQi15
import Derived.Test.YthncdjcmlpiebaaGreatQi16
namespace Go.Proofs.YthncdjcmlpiebaaGreat
open Go.RowKit
def isIvObs (N : Int) (X l : List Int) : Bool := isHoleL N X l || (decide (l.length = 3) && isTrip N X (l.getD 0 0) (l.getD 1 0) (l.getD 2 0))
set_option maxRecDepth 100000 in
theorem implIsHole_is {N : Int} {A B : Option Addr} {n c m d : Nat} {X l : List Int} {w : World} {r : Bool} (hX : RI w A n X) (hL : RI w B m l) (hn : n ≤ 9223372036854775807) (hm : m ≤ 9223372036854775807) (hmd : m ≤ d) (hr : isHoleL N X l = r) :
    Calls Tryz.prog 102 #[.agg #[.int .i64 N, .slice A n c], .slice B m d] w fun e w' => e = .returned (.bool r) ∧ Below w.heap.size w w' := by
  subst hr; exact implIsHole_any N A B n c m d X l w hX hL hn hm hmd
set_option maxRecDepth 100000 in
set_option maxHeartbeats 2000000 in
theorem implIsIvObs_any (N : Int) (A B : Option Addr) (n c m d : Nat) (X l : List Int) (w : World) (hX : RI w A n X) (hL : RI w B m l) (hn : n ≤ 9223372036854775807) (hm : m ≤ 9223372036854775807) (hmd : m ≤ d) :
    Calls Tryz.prog 40 #[.agg #[.int .i64 N, .slice A n c], .slice B m d] w fun e w' => e = .returned (.bool (isIvObs N X l)) ∧ Below w.heap.size w w' := by
  have hbk := Blk.new w 26 #[.int .i64 N, .slice A n c]
  have hU0 : Up w (w.alloc (.cells #[.int .i64 N, .slice A n c] 26)) := by go_grown
  have hml := hL.1
  have hXa := hX.up hU0
  have hLa := hL.up hU0
  have hya := hbk.two
  have hla := hbk.lt
  obtain ⟨h1, hh1⟩ : ∃ h1, h1 = isHoleL N X l := ⟨_, rfl⟩
  have H1 := Lib.hid hh1.symm
  by_cases h3 : m = 3
  rotate_left
  · have HR := Lib.hid (show isIvObs N X l = h1 by rw [isIvObs, H1.out, hml, decide_eq_false h3, Bool.false_and, Bool.or_false])
    rw [HR.out]
    have d3 : ((m : Int) == 3) = false := by rw [beq_eq_false_iff_ne]; omega
    clear hh1 h3 HR
    obtain ⟨wa, hwa⟩ : ∃ wa, wa = w.alloc (.cells #[.int .i64 N, .slice A n c] 26) := ⟨_, rfl⟩
    rw [← hwa] at hU0 hXa hLa hya hla
    cases h1
    all_goals
      go_enter Tryz.func40, Tryz.ntmps40
      go_wp2
      rw [← hwa]
      have hV0 : Up wa wa.drew := (Up.refl _).drew
      refine wp_region_calm (S := (fun w' => Up wa w' ∧ (∀ b o, b < wa.heap.size → w'.cell? ⟨b, o, none⟩ = wa.cell? ⟨b, o, none⟩))) (by kernel_rfl) (by kernel_rfl) (by exact ⟨hV0, fun _ _ hb => hV0.cell hb⟩) ?_
      repeat (first | (refine CalmSeq.cons undef (Calm.off (by rfl)) ?_; (try simp only [Act.put, List.setIfInBounds_toArray, List.set_cons_zero, List.set_cons_succ])) | (refine CalmSeq.cons ?_ (Calm.val (by rfl) ?_) ?_; rotate_left; (intro wC hSw; (try dsimp only at hSw); go_simp; done); (try simp only [Act.put, List.setIfInBounds_toArray, List.set_cons_zero, List.set_cons_succ])) | (refine CalmSeq.cons ?_ (Calm.val (by rfl) ?_) ?_; rotate_left; (intro wC hSw; (try dsimp only at hSw); go_simp; with_reducible rfl); (try simp only [Act.put, List.setIfInBounds_toArray, List.set_cons_zero, List.set_cons_succ])) | ((refine CalmSeq.cons ?_ (Calm.call (f := ?_) (args := ?_) (by rfl) ?_ (fun wC hSw => ?_)) ?_; rotate_left 3; (intro wC; go_simp; (refine ⟨?_, ?_⟩ <;> with_reducible rfl)); (go_at_call 102; (with_reducible refine (implIsHole_is (hXa.up hSw.1) (hLa.up hSw.1) hn hm hmd H1.out).mono ?_); rintro e wD ⟨rfl, hbD⟩; apply And.intro; (with_reducible rfl); (have hUD := Up.then_ hSw.1 hbD; exact ⟨hUD, fun _ _ hb => hUD.cell hb⟩))); (try simp only [Act.put, List.setIfInBounds_toArray, List.set_cons_zero, List.set_cons_succ])))
      intro w1 hS1
      have hU1 : Up wa w1 := hS1.1
      clear hS1 hV0
      go_wp2
      go_ret
      exact ⟨rfl, Up.then_ hU0 hU1⟩
  · subst h3
    obtain ⟨ad, rfl, habs, hcell⟩ := hLa.addr (by omega)
    have c0 := hcell 0 (by omega)
    have c1 := hcell 1 (by omega)
    have c2 := hcell 2 (by omega)
    rw [show ad.add 1 = ⟨ad.block, ad.off + 1, none⟩ from rfl] at c1
    rw [show ad.add 2 = ⟨ad.block, ad.off + 2, none⟩ from rfl] at c2
    have HT := Lib.hid (show isIvObs N X l = (h1 || isTrip N X (l.getD 0 0) (l.getD 1 0) (l.getD 2 0)) by rw [isIvObs, H1.out, hml, decide_eq_true rfl, Bool.true_and])
    obtain ⟨x, hx⟩ : ∃ x, x = l.getD 0 0 := ⟨_, rfl⟩
    obtain ⟨y, hy⟩ : ∃ y, y = l.getD 1 0 := ⟨_, rfl⟩
    obtain ⟨z, hz⟩ : ∃ z, z = l.getD 2 0 := ⟨_, rfl⟩
    rw [← hx] at c0 HT
    rw [← hy] at c1 HT
    rw [← hz] at c2 HT
    obtain ⟨t, ht⟩ : ∃ t, t = isTrip N X x y z := ⟨_, rfl⟩
    rw [← ht] at HT
    have H2 := Lib.hid ht.symm
    rw [HT.out]
    have c00 : (w.alloc (.cells #[.int .i64 N, .slice A n c] 26)).cell? ad = some (.int .i64 x) := by have := c0; rwa [add_zero_] at this
    clear hh1 HT hx hy hz ht hcell hml
    obtain ⟨wa, hwa⟩ : ∃ wa, wa = w.alloc (.cells #[.int .i64 N, .slice A n c] 26) := ⟨_, rfl⟩
    rw [← hwa] at hU0 hXa hLa hya hla c0 c1 c2 c00 habs
    cases h1
    all_goals
      go_enter Tryz.func40, Tryz.ntmps40
      go_wp2
      rw [← hwa]
      have hV0 : Up wa wa.drew := (Up.refl _).drew
      refine wp_region_calm (S := (fun w' => Up wa w' ∧ (∀ b o, b < wa.heap.size → w'.cell? ⟨b, o, none⟩ = wa.cell? ⟨b, o, none⟩) ∧ w'.cell? (ad.add 0) = some (.int .i64 x) ∧ w'.cell? (⟨ad.block, ad.off + 1, none⟩) = some (.int .i64 y) ∧ w'.cell? (⟨ad.block, ad.off + 2, none⟩) = some (.int .i64 z) ∧ w'.cell? (ad) = some (.int .i64 x))) (by kernel_rfl) (by kernel_rfl) (by exact ⟨hV0, fun _ _ hb => hV0.cell hb, (hV0.cell (by first | assumption | (rw [block_of_add]; assumption))).trans (by assumption), (hV0.cell (by first | assumption | (rw [block_of_add]; assumption))).trans (by assumption), (hV0.cell (by first | assumption | (rw [block_of_add]; assumption))).trans (by assumption), (hV0.cell (by first | assumption | (rw [block_of_add]; assumption))).trans (by assumption)⟩) ?_
      repeat (first | (refine CalmSeq.cons undef (Calm.off (by rfl)) ?_; (try simp only [Act.put, List.setIfInBounds_toArray, List.set_cons_zero, List.set_cons_succ])) | (refine CalmSeq.cons ?_ (Calm.val (by rfl) ?_) ?_; rotate_left; (intro wC hSw; (try dsimp only at hSw); go_simp; done); (try simp only [Act.put, List.setIfInBounds_toArray, List.set_cons_zero, List.set_cons_succ])) | (refine CalmSeq.cons ?_ (Calm.val (by rfl) ?_) ?_; rotate_left; (intro wC hSw; (try dsimp only at hSw); go_simp; with_reducible rfl); (try simp only [Act.put, List.setIfInBounds_toArray, List.set_cons_zero, List.set_cons_succ])) | ((refine CalmSeq.cons ?_ (Calm.call (f := ?_) (args := ?_) (by rfl) ?_ (fun wC hSw => ?_)) ?_; rotate_left 3; (intro wC; go_simp; (refine ⟨?_, ?_⟩ <;> with_reducible rfl)); (go_at_call 102; (with_reducible refine (implIsHole_is (hXa.up hSw.1) (hLa.up hSw.1) hn hm hmd H1.out).mono ?_); rintro e wD ⟨rfl, hbD⟩; apply And.intro; (with_reducible rfl); (have hUD := Up.then_ hSw.1 hbD; exact ⟨hUD, fun _ _ hb => hUD.cell hb, (hUD.cell (by first | assumption | (rw [block_of_add]; assumption))).trans (by assumption), (hUD.cell (by first | assumption | (rw [block_of_add]; assumption))).trans (by assumption), (hUD.cell (by first | assumption | (rw [block_of_add]; assumption))).trans (by assumption), (hUD.cell (by first | assumption | (rw [block_of_add]; assumption))).trans (by assumption)⟩))); (try simp only [Act.put, List.setIfInBounds_toArray, List.set_cons_zero, List.set_cons_succ])) | ((refine CalmSeq.cons ?_ (Calm.call (f := ?_) (args := ?_) (by rfl) ?_ (fun wC hSw => ?_)) ?_; rotate_left 3; (intro wC; go_simp; (refine ⟨?_, ?_⟩ <;> with_reducible rfl)); (go_at_call 45; (with_reducible refine (implIsTriple_is (hXa.up hSw.1) hn H2.out).mono ?_); rintro e wD ⟨rfl, hbD⟩; apply And.intro; (with_reducible rfl); (have hUD := Up.then_ hSw.1 hbD; exact ⟨hUD, fun _ _ hb => hUD.cell hb, (hUD.cell (by first | assumption | (rw [block_of_add]; assumption))).trans (by assumption), (hUD.cell (by first | assumption | (rw [block_of_add]; assumption))).trans (by assumption), (hUD.cell (by first | assumption | (rw [block_of_add]; assumption))).trans (by assumption), (hUD.cell (by first | assumption | (rw [block_of_add]; assumption))).trans (by assumption)⟩))); (try simp only [Act.put, List.setIfInBounds_toArray, List.set_cons_zero, List.set_cons_succ])))
      intro w1 hS1
      have hU1 : Up wa w1 := hS1.1
      clear hS1 hV0
      go_wp2
      go_ret
      exact ⟨rfl, Up.then_ hU0 hU1⟩
set_option maxRecDepth 100000 in
theorem specIsHole_is {N : Int} {A B : Option Addr} {n c m d : Nat} {X l : List Int} {w : World} {r : Bool} (hX : RI w A n X) (hL : RI w B m l) (hn : n ≤ 9223372036854775807) (hm : m ≤ 9223372036854775807) (hr : isHoleL N X l = r) :
    Calls Tryz.prog 123 #[.agg #[.int .i64 N, .slice A n c], .slice B m d] w fun e w' => e = .returned (.bool r) ∧ Below w.heap.size w w' := by
  subst hr; exact specIsHole_any N A B n c m d X l w hX hL hn hm
set_option maxRecDepth 100000 in
set_option maxHeartbeats 2000000 in
theorem specIsIvObs_any (N : Int) (A B : Option Addr) (n c m d : Nat) (X l : List Int) (w : World) (hX : RI w A n X) (hL : RI w B m l) (hn : n ≤ 9223372036854775807) (hm : m ≤ 9223372036854775807) :
    Calls Tryz.prog 60 #[.agg #[.int .i64 N, .slice A n c], .slice B m d] w fun e w' => e = .returned (.bool (isIvObs N X l)) ∧ Below w.heap.size w w' := by
  have hbk := Blk.new w 26 #[.int .i64 N, .slice A n c]
  have hU0 : Up w (w.alloc (.cells #[.int .i64 N, .slice A n c] 26)) := by go_grown
  have hml := hL.1
  have hXa := hX.up hU0
  have hLa := hL.up hU0
  have hya := hbk.two
  have hla := hbk.lt
  obtain ⟨h1, hh1⟩ : ∃ h1, h1 = isHoleL N X l := ⟨_, rfl⟩
  have H1 := Lib.hid hh1.symm
  by_cases h3 : m = 3
  rotate_left
  · have HR := Lib.hid (show isIvObs N X l = h1 by rw [isIvObs, H1.out, hml, decide_eq_false h3, Bool.false_and, Bool.or_false])
    rw [HR.out]
    have d3 : ((m : Int) == 3) = false := by rw [beq_eq_false_iff_ne]; omega
    clear hh1 h3 HR
    obtain ⟨wa, hwa⟩ : ∃ wa, wa = w.alloc (.cells #[.int .i64 N, .slice A n c] 26) := ⟨_, rfl⟩
    rw [← hwa] at hU0 hXa hLa hya hla
    cases h1
    all_goals
      go_enter Tryz.func60, Tryz.ntmps60
      go_wp2
      rw [← hwa]
      have hV0 : Up wa wa.drew := (Up.refl _).drew
      refine wp_region_calm (S := (fun w' => Up wa w' ∧ (∀ b o, b < wa.heap.size → w'.cell? ⟨b, o, none⟩ = wa.cell? ⟨b, o, none⟩))) (by kernel_rfl) (by kernel_rfl) (by exact ⟨hV0, fun _ _ hb => hV0.cell hb⟩) ?_
      repeat (first | (refine CalmSeq.cons undef (Calm.off (by rfl)) ?_; (try simp only [Act.put, List.setIfInBounds_toArray, List.set_cons_zero, List.set_cons_succ])) | (refine CalmSeq.cons ?_ (Calm.val (by rfl) ?_) ?_; rotate_left; (intro wC hSw; (try dsimp only at hSw); go_simp; done); (try simp only [Act.put, List.setIfInBounds_toArray, List.set_cons_zero, List.set_cons_succ])) | (refine CalmSeq.cons ?_ (Calm.val (by rfl) ?_) ?_; rotate_left; (intro wC hSw; (try dsimp only at hSw); go_simp; with_reducible rfl); (try simp only [Act.put, List.setIfInBounds_toArray, List.set_cons_zero, List.set_cons_succ])) | ((refine CalmSeq.cons ?_ (Calm.call (f := ?_) (args := ?_) (by rfl) ?_ (fun wC hSw => ?_)) ?_; rotate_left 3; (intro wC; go_simp; (refine ⟨?_, ?_⟩ <;> with_reducible rfl)); (go_at_call 123; (with_reducible refine (specIsHole_is (hXa.up hSw.1) (hLa.up hSw.1) hn hm H1.out).mono ?_); rintro e wD ⟨rfl, hbD⟩; apply And.intro; (with_reducible rfl); (have hUD := Up.then_ hSw.1 hbD; exact ⟨hUD, fun _ _ hb => hUD.cell hb⟩))); (try simp only [Act.put, List.setIfInBounds_toArray, List.set_cons_zero, List.set_cons_succ])))
      intro w1 hS1
      have hU1 : Up wa w1 := hS1.1
      clear hS1 hV0
      go_wp2
      go_ret
      exact ⟨rfl, Up.then_ hU0 hU1⟩
  · subst h3
    obtain ⟨ad, rfl, habs, hcell⟩ := hLa.addr (by omega)
    have c0 := hcell 0 (by omega)
    have c1 := hcell 1 (by omega)
    have c2 := hcell 2 (by omega)
    rw [show ad.add 1 = ⟨ad.block, ad.off + 1, none⟩ from rfl] at c1
    rw [show ad.add 2 = ⟨ad.block, ad.off + 2, none⟩ from rfl] at c2
    have HT := Lib.hid (show isIvObs N X l = (h1 || isTrip N X (l.getD 0 0) (l.getD 1 0) (l.getD 2 0)) by rw [isIvObs, H1.out, hml, decide_eq_true rfl, Bool.true_and])
    obtain ⟨x, hx⟩ : ∃ x, x = l.getD 0 0 := ⟨_, rfl⟩
    obtain ⟨y, hy⟩ : ∃ y, y = l.getD 1 0 := ⟨_, rfl⟩
    obtain ⟨z, hz⟩ : ∃ z, z = l.getD 2 0 := ⟨_, rfl⟩
    rw [← hx] at c0 HT
    rw [← hy] at c1 HT
    rw [← hz] at c2 HT
    obtain ⟨t, ht⟩ : ∃ t, t = isTrip N X x y z := ⟨_, rfl⟩
    rw [← ht] at HT
    have H2 := Lib.hid ht.symm
    rw [HT.out]
    have c00 : (w.alloc (.cells #[.int .i64 N, .slice A n c] 26)).cell? ad = some (.int .i64 x) := by have := c0; rwa [add_zero_] at this
    clear hh1 HT hx hy hz ht hcell hml
    obtain ⟨wa, hwa⟩ : ∃ wa, wa = w.alloc (.cells #[.int .i64 N, .slice A n c] 26) := ⟨_, rfl⟩
    rw [← hwa] at hU0 hXa hLa hya hla c0 c1 c2 c00 habs
    cases h1
    all_goals
      go_enter Tryz.func60, Tryz.ntmps60
      go_wp2
      rw [← hwa]
      have hV0 : Up wa wa.drew := (Up.refl _).drew
      refine wp_region_calm (S := (fun w' => Up wa w' ∧ (∀ b o, b < wa.heap.size → w'.cell? ⟨b, o, none⟩ = wa.cell? ⟨b, o, none⟩) ∧ w'.cell? (ad.add 0) = some (.int .i64 x) ∧ w'.cell? (⟨ad.block, ad.off + 1, none⟩) = some (.int .i64 y) ∧ w'.cell? (⟨ad.block, ad.off + 2, none⟩) = some (.int .i64 z) ∧ w'.cell? (ad) = some (.int .i64 x))) (by kernel_rfl) (by kernel_rfl) (by exact ⟨hV0, fun _ _ hb => hV0.cell hb, (hV0.cell (by first | assumption | (rw [block_of_add]; assumption))).trans (by assumption), (hV0.cell (by first | assumption | (rw [block_of_add]; assumption))).trans (by assumption), (hV0.cell (by first | assumption | (rw [block_of_add]; assumption))).trans (by assumption), (hV0.cell (by first | assumption | (rw [block_of_add]; assumption))).trans (by assumption)⟩) ?_
      repeat (first | (refine CalmSeq.cons undef (Calm.off (by rfl)) ?_; (try simp only [Act.put, List.setIfInBounds_toArray, List.set_cons_zero, List.set_cons_succ])) | (refine CalmSeq.cons ?_ (Calm.val (by rfl) ?_) ?_; rotate_left; (intro wC hSw; (try dsimp only at hSw); go_simp; done); (try simp only [Act.put, List.setIfInBounds_toArray, List.set_cons_zero, List.set_cons_succ])) | (refine CalmSeq.cons ?_ (Calm.val (by rfl) ?_) ?_; rotate_left; (intro wC hSw; (try dsimp only at hSw); go_simp; with_reducible rfl); (try simp only [Act.put, List.setIfInBounds_toArray, List.set_cons_zero, List.set_cons_succ])) | ((refine CalmSeq.cons ?_ (Calm.call (f := ?_) (args := ?_) (by rfl) ?_ (fun wC hSw => ?_)) ?_; rotate_left 3; (intro wC; go_simp; (refine ⟨?_, ?_⟩ <;> with_reducible rfl)); (go_at_call 123; (with_reducible refine (specIsHole_is (hXa.up hSw.1) (hLa.up hSw.1) hn hm H1.out).mono ?_); rintro e wD ⟨rfl, hbD⟩; apply And.intro; (with_reducible rfl); (have hUD := Up.then_ hSw.1 hbD; exact ⟨hUD, fun _ _ hb => hUD.cell hb, (hUD.cell (by first | assumption | (rw [block_of_add]; assumption))).trans (by assumption), (hUD.cell (by first | assumption | (rw [block_of_add]; assumption))).trans (by assumption), (hUD.cell (by first | assumption | (rw [block_of_add]; assumption))).trans (by assumption), (hUD.cell (by first | assumption | (rw [block_of_add]; assumption))).trans (by assumption)⟩))); (try simp only [Act.put, List.setIfInBounds_toArray, List.set_cons_zero, List.set_cons_succ])) | ((refine CalmSeq.cons ?_ (Calm.call (f := ?_) (args := ?_) (by rfl) ?_ (fun wC hSw => ?_)) ?_; rotate_left 3; (intro wC; go_simp; (refine ⟨?_, ?_⟩ <;> with_reducible rfl)); (go_at_call 104; (with_reducible refine (specIsTriple_is (hXa.up hSw.1) hn H2.out).mono ?_); rintro e wD ⟨rfl, hbD⟩; apply And.intro; (with_reducible rfl); (have hUD := Up.then_ hSw.1 hbD; exact ⟨hUD, fun _ _ hb => hUD.cell hb, (hUD.cell (by first | assumption | (rw [block_of_add]; assumption))).trans (by assumption), (hUD.cell (by first | assumption | (rw [block_of_add]; assumption))).trans (by assumption), (hUD.cell (by first | assumption | (rw [block_of_add]; assumption))).trans (by assumption), (hUD.cell (by first | assumption | (rw [block_of_add]; assumption))).trans (by assumption)⟩))); (try simp only [Act.put, List.setIfInBounds_toArray, List.set_cons_zero, List.set_cons_succ])))
      intro w1 hS1
      have hU1 : Up wa w1 := hS1.1
      clear hS1 hV0
      go_wp2
      go_ret
      exact ⟨rfl, Up.then_ hU0 hU1⟩
end Go.Proofs.YthncdjcmlpiebaaGreat
namespace Go.Proofs.YthncdjcmlpiebaaGreat
open Go.RowKit
end Go.Proofs.YthncdjcmlpiebaaGreat
namespace Go.Proofs.YthncdjcmlpiebaaGreat
open Go.RowKit
/-- What the program's search gives: a new row, or nil. -/
def GivesN4 (r : Option (List Nat)) (w : World) (e : Ending) (w' : World) : Prop :=
  (match r with
   | some q => ∃ g c, e = .returned (.slice (some ⟨g, 0, none⟩) q.length c) ∧ OwnI w' w.heap.size (some ⟨g, 0, none⟩) q.length c (ints q)
   | none => e = .returned (.slice none 0 0)) ∧ Below w.heap.size w w'
end Go.Proofs.YthncdjcmlpiebaaGreat
namespace Go.Proofs.YthncdjcmlpiebaaGreat
open Go.RowKit
set_option maxRecDepth 100000 in
theorem hHolds_is {A B : Option Addr} {bG n c m d : Nat} {Q o : List Nat} {w : World} {r : Bool} (hX : RI w A n (ints Q)) (hL : RI w B m (ints o)) (hn : n ≤ 1048576) (hm : m ≤ 1048576) (hmd : m ≤ d) (hG : Blk w bG 26 #[.int .i64 n, .slice A n c]) (hr : holdsH n Q o = r) :
    Calls Tryz.prog 149 #[.slice B m d, .pointer (some ⟨bG, 0, none⟩)] w fun e w' => e = .returned (.bool r) ∧ Below w.heap.size w w' := by
  have hyb := hG.two
  go_enter Tryz.func149, Tryz.ntmps149
  go_wp2_with fail
  refine (implIsHole_is hX hL (by omega) (by omega) hmd hr).mono ?_
  rintro e w1 ⟨rfl, hb1⟩
  have hU1 : Up w w1 := Up.then_ (by go_grown) hb1
  go_wp2
  go_ret
  exact ⟨rfl, hU1⟩
set_option maxRecDepth 100000 in
theorem implIsPath_is {N : Int} {A B : Option Addr} {n c m d : Nat} {X l : List Int} {w : World} {r : Bool} (hX : RI w A n X) (hL : RI w B m l) (hn : n ≤ 9223372036854775807) (hm : m ≤ 9223372036854775807) (hmd : m ≤ d) (hr : isPathL N X l = r) :
    Calls Tryz.prog 148 #[.agg #[.int .i64 N, .slice A n c], .slice B m d] w fun e w' => e = .returned (.bool r) ∧ Below w.heap.size w w' := by
  subst hr; exact implIsPath_any N A B n c m d X l w hX hL hn hm hmd
set_option maxRecDepth 100000 in
theorem hMay_any {A B : Option Addr} {bG b0 n c m s d : Nat} {Q o : List Nat} {w : World} (hX : RI w A n (ints Q)) (hL : RI w B s (ints o)) (hn : n ≤ 1048576) (hm : s ≤ 1048576) (hmd : s ≤ d) (hG : Blk w bG 26 #[.int .i64 n, .slice A n c]) (h0 : Blk w b0 3 #[.int .i64 m]) :
    Calls Tryz.prog 147 #[.slice B s d, .pointer (some ⟨b0, 0, none⟩), .pointer (some ⟨bG, 0, none⟩)] w fun e w' => e = .returned (.bool (mayH n Q m o)) ∧ Below w.heap.size w w' := by
  have hyb := hG.two
  have hlb := hG.lt
  have hy0 := h0.one
  have hl0 := h0.lt
  have hol : o.length = s := by rw [← hL.1, ints_len]
  by_cases hsm : s = m
  · have HR := Lib.hid (show mayH n Q m o = true by rw [mayH, hol, decide_eq_true hsm]; rfl)
    rw [HR.out]
    subst hsm
    clear HR hol
    go_enter Tryz.func147, Tryz.ntmps147
    go_wp2
    go_ret
    exact ⟨rfl, Below.refl _ _⟩
  · have HR := Lib.hid (show mayH n Q m o = isPathL n (ints Q) (ints o) by rw [mayH, hol, decide_eq_false hsm]; rfl)
    obtain ⟨p, hp⟩ : ∃ p, p = isPathL n (ints Q) (ints o) := ⟨_, rfl⟩
    rw [HR.out, ← hp]
    have Hp := Lib.hid hp.symm
    have hsm2 : ((s : Int) == (m : Int)) = false := by rw [beq_eq_false_iff_ne]; omega
    clear HR hol hp hsm
    go_enter Tryz.func147, Tryz.ntmps147
    go_wp2_with fail
    refine (implIsPath_is hX hL (by omega) (by omega) hmd Hp.out).mono ?_
    rintro e w1 ⟨rfl, hb1⟩
    have hU1 : Up w w1 := Up.then_ (by go_grown) hb1
    go_wp2
    go_ret
    exact ⟨rfl, hU1⟩
/-- The variables that the search captures. -/
def HBx (w : World) (A : Option Addr) (n m c bN bH bG bM bS bG2 b0 : Nat) : Prop :=
  (Blk w bN 3 #[.int .i64 m] ∧ Blk w bH 61 #[.func (.func 149) #[] #[.pointer (some ⟨bG2, 0, none⟩)]]) ∧ (Blk w bG 26 #[.int .i64 n, .slice A n c] ∧ Blk w bM 61 #[.func (.func 147) #[] #[.pointer (some ⟨b0, 0, none⟩), .pointer (some ⟨bG2, 0, none⟩)]]) ∧
  Blk w bS 79 #[.func (.func 124) #[] #[.pointer (some ⟨bN, 0, none⟩), .pointer (some ⟨bH, 0, none⟩), .pointer (some ⟨bG, 0, none⟩), .pointer (some ⟨bM, 0, none⟩), .pointer (some ⟨bS, 0, none⟩)]] ∧ Blk w bG2 26 #[.int .i64 n, .slice A n c] ∧ Blk w b0 3 #[.int .i64 m]
set_option maxRecDepth 100000 in
theorem HBx.up {w w' : World} {A : Option Addr} {n m c bN bH bG bM bS bG2 b0 : Nat} (h : HBx w A n m c bN bH bG bM bS bG2 b0) (hb : Below w.heap.size w w') : HBx w' A n m c bN bH bG bM bS bG2 b0 :=
  ⟨⟨h.1.1.up hb, h.1.2.up hb⟩, ⟨h.2.1.1.up hb, h.2.1.2.up hb⟩, h.2.2.1.up hb, h.2.2.2.1.up hb, h.2.2.2.2.up hb⟩
set_option maxRecDepth 100000 in
theorem HBx.cells {w : World} {A : Option Addr} {n m c bN bH bG bM bS bG2 b0 : Nat} (h : HBx w A n m c bN bH bG bM bS bG2 b0) :
    w.cell? ⟨bN, 0, none⟩ = some (.int .i64 m) ∧ w.cell? ⟨bH, 0, none⟩ = some (.func (.func 149) #[] #[.pointer (some ⟨bG2, 0, none⟩)]) ∧ w.cell? ⟨bG, 0, none⟩ = some (.int .i64 n) ∧ w.cell? ⟨bG, 1, none⟩ = some (.slice A n c) ∧ w.cell? ⟨bM, 0, none⟩ = some (.func (.func 147) #[] #[.pointer (some ⟨b0, 0, none⟩), .pointer (some ⟨bG2, 0, none⟩)]) ∧
    w.cell? ⟨bS, 0, none⟩ = some (.func (.func 124) #[] #[.pointer (some ⟨bN, 0, none⟩), .pointer (some ⟨bH, 0, none⟩), .pointer (some ⟨bG, 0, none⟩), .pointer (some ⟨bM, 0, none⟩), .pointer (some ⟨bS, 0, none⟩)]) :=
  ⟨h.1.1.one, h.1.2.one, h.2.1.1.two.1, h.2.1.1.two.2, h.2.1.2.one, h.2.2.1.one⟩
set_option maxRecDepth 100000 in
set_option maxHeartbeats 4000000 in
theorem HSearch_any (n m ca bN bH bG bM bS bG2 b0 : Nat) (A : Option Addr) (Q : List Nat) (h : GOk n Q) (hm0 : 0 < m) (hm7 : m ≤ 7) : ∀ (f : Nat) (l : List Nat) (B : Option Addr) (c : Nat) (w : World), l.length + f = m → (∀ v ∈ l, v < n) → RI w B l.length (ints l) → (B = none → c = 0) → l.length ≤ c → c ≤ 9223372036854775807 → RI w A n (ints Q) → HBx w A n m ca bN bH bG bM bS bG2 b0 →
    Calls Tryz.prog 124 #[.slice B l.length c, .pointer (some ⟨bN, 0, none⟩), .pointer (some ⟨bH, 0, none⟩), .pointer (some ⟨bG, 0, none⟩), .pointer (some ⟨bM, 0, none⟩), .pointer (some ⟨bS, 0, none⟩)] w (GivesN4 (srch (mayH n Q m) (holdsH n Q) n f l) w) := by
  have hn7 := h.le
  have hn1 := h.pos
  intro f
  induction f with
  | zero =>
    intro l B c w hf hl hL hB hlc hc hX hbx
    have hlen : l.length = m := by omega
    have heq : ((l.length : Int) == (m : Int)) = true := by rw [beq_iff_eq]; omega
    have hcs := hbx.cells
    obtain ⟨bd, rfl, _, _⟩ := hL.addr (by omega)
    have Hlen := Lib.hid hlen
    have Hf := Lib.hid hf
    have h0 : 0 < l.length := by omega
    have h1 : l.length ≤ 1048576 := by omega
    clear hlen hf
    rcases Bool.eq_false_or_eq_true ((holdsH n Q) l) with e1 | e1
    · have HZ := Lib.hid (show srch (mayH n Q m) (holdsH n Q) n 0 l = some l by rw [srch, e1]; rfl)
      have E1 := Lib.hid e1
      clear e1
      go_enter Tryz.func124, Tryz.ntmps124
      go_wp2_with fail
      refine (hHolds_is hX hL (by omega) (by omega) hlc hbx.2.2.2.1 E1.out).mono ?_
      rintro e w1 ⟨rfl, hb1⟩
      go_wp2_with fail
      refine (slClone_any bd l.length c (ints l) _ (hL.up hb1) h0 h1).mono ?_
      rintro e w2 ⟨g, c1, rfl, hown, hb2⟩
      replace hown := hown.more (base' := w.heap.size) hb1.size
      go_wp2
      go_ret
      rw [HZ.out]
      exact ⟨⟨g, c1, rfl, hown⟩, Up.then_ hb1 hb2⟩
    · have HZ := Lib.hid (show srch (mayH n Q m) (holdsH n Q) n 0 l = none by rw [srch, e1]; rfl)
      have E1 := Lib.hid e1
      clear e1
      go_enter Tryz.func124, Tryz.ntmps124
      go_wp2_with fail
      refine (hHolds_is hX hL (by omega) (by omega) hlc hbx.2.2.2.1 E1.out).mono ?_
      rintro e w1 ⟨rfl, hb1⟩
      go_wp2
      go_ret
      rw [HZ.out]
      exact ⟨rfl, hb1⟩
  | succ f ih =>
    intro l B c w hf hl hL hB hlc hc hX hbx
    have hne : ((l.length : Int) == (m : Int)) = false := by rw [beq_eq_false_iff_ne]; omega
    have Hl := Lib.hid hl
    have Ih := Lib.hid ih
    have HS := Lib.hid (srch_step (mayH n Q m) (holdsH n Q) n f l)
    have hcs := hbx.cells
    clear hl ih
    go_enter Tryz.func124, Tryz.ntmps124
    go_wp2_with fail
    go_loopw [22] (fun i wr => ∃ k : Nat, k ≤ n ∧ i = .int .i64 k ∧ Below w.heap.size w wr ∧ Hid (srchK (mayH n Q m) (holdsH n Q) n f l k = none)) (fun i _ => n - (intOf i).toNat)
    case atStart => exact ⟨0, Nat.zero_le _, rfl, Below.refl _ _, srchK_zero _ _ _ _ _⟩
    case round =>
      clear hcs
      obtain ⟨k, hk, rfl, hb, hno⟩ := hrel
      have hbxr := hbx.up hb
      have hcs := hbxr.cells
      by_cases hkt : k < n
      · have hsz := hb.size
        have hLr := hL.up hb
        have hcell := (Blk.new wr 3 #[.int .i64 (k : Int)]).one
        have hB0 : B = none → l.length = 0 := fun e => by have := hB e; omega
        have HB0 := Lib.hid hB0
        clear hB0
        have hnq := neq_nil
        go_wp2_with (at_builtin; refine wpList_more rfl (.tmp 30) (.tmp 32) rfl (k : Int) rfl HB0.out (hLr.alloc _) ⟨wr.heap.size, 0, none⟩ rfl hcell (by omega) ?_; intro A1 c1 w1 hown1 hU1a)
        have hU1 : Up wr w1 := Up.then_ (by go_grown) hU1a
        have hx1 : OwnI w1 wr.heap.size A1 (l.length + 1) c1 (ints (l ++ [k])) := (hown1.more (by simp)).cast rfl (ints_app l k).symm
        have HLen := Lib.hid (show (l ++ [k]).length = l.length + 1 from push_len.symm)
        obtain ⟨gx, rfl⟩ := hx1.form (by omega)
        clear hown1 hcell hcs
        have hw1 := Up.then_ hb hU1
        replace hLr := hLr.up hU1
        replace hbxr := hbxr.up hU1
        have hcs := hbxr.cells
        rcases Bool.eq_false_or_eq_true (decide (k ∈ l)) with e1 | e1
        · have HA := Lib.hid (srchAt_off (may := mayH n Q m) (holds := holdsH n Q) (N := n) (f := f) (v := k) (l := l) (by rw [nextOk, e1]; rfl))
          rw [← dec_mem] at e1
          refine (slContains_is hLr (by omega) e1).mono ?_
          clear e1
          rintro e w3 ⟨rfl, rfl⟩
          go_wp2
          go_roundw
          case rel => exact ⟨k + 1, by omega, by go_num, hw1, srchK_none hno.out HA.out⟩
          case measure => simp [intOf]; omega
        · have hlv : ∀ v ∈ l ++ [k], v < n := fun v hv => by
            rcases List.mem_append.1 hv with hv | hv
            · exact Hl.out v hv
            · obtain rfl : v = k := by simpa using hv
              exact hkt
          have Hlv := Lib.hid hlv
          clear hlv
          have E1 := Lib.hid e1
          rw [← dec_mem] at e1
          refine (slContains_is hLr (by omega) e1).mono ?_
          clear e1
          rintro e w3 ⟨rfl, rfl⟩
          have hcap := hx1.cap
          go_wp2_with fail
          refine (hMay_any (hX.up hw1) hx1.ri (by omega) (by omega) hcap.1 hbxr.2.2.2.1 hbxr.2.2.2.2).mono ?_
          rintro e w4 ⟨rfl, hb4⟩
          have hU4 : Up w1 w4 := Up.then_ (by go_grown) hb4
          replace hx1 := hx1.up hU4
          replace hbxr := hbxr.up hU4
          have hw4 := Up.then_ hw1 hU4
          clear hcs
          have hcs := hbxr.cells
          rcases Bool.eq_false_or_eq_true ((mayH n Q m) (l ++ [k])) with e2 | e2
          · have HA := Lib.hid (srchAt_on (holds := holdsH n Q) (N := n) (f := f) (show nextOk (mayH n Q m) l k = true by rw [nextOk, E1.out, e2]; rfl))
            rw [e2]
            clear e2
            have hsz4 := hw4.size
            have hih := Ih.out (l ++ [k]) (some ⟨gx, 0, none⟩) c1 w4 (by rw [HLen.out]; omega) Hlv.out (by rw [HLen.out]; exact hx1.ri) (fun e => by cases e) (by rw [HLen.out]; exact hcap.1) hcap.2 (hX.up hw4) hbxr
            rw [HLen.out] at hih
            go_wp2_with fail
            refine hih.mono ?_
            clear hih
            rintro e w5 ⟨hg5, hb5⟩
            have hw5 := Up.then_ hw4 hb5
            rcases hsr : srch (mayH n Q m) (holdsH n Q) n f (l ++ [k]) with _ | r
            · have HK := Lib.hid (srchK_none hno.out (HA.out.trans hsr))
              rw [hsr] at hg5
              clear hsr
              obtain rfl := hg5
              go_wp2
              go_roundw
              case rel => exact ⟨k + 1, by omega, by go_num, hw5, HK.out⟩
              case measure => simp [intOf]; omega
            · have HK := Lib.hid (srchK_some hno.out (HA.out.trans hsr) hkt)
              rw [hsr] at hg5
              clear hsr
              obtain ⟨g5, c5, rfl, hown5⟩ := hg5
              replace hown5 := hown5.more (base' := w.heap.size) hw4.size
              go_wp2
              go_ret
              rw [HK.out]
              exact ⟨⟨g5, c5, rfl, hown5⟩, hw5⟩
          · have HA := Lib.hid (srchAt_off (may := mayH n Q m) (holds := holdsH n Q) (N := n) (f := f) (v := k) (l := l) (by rw [nextOk, E1.out, e2]; rfl))
            rw [e2]
            clear e2
            go_wp2
            go_roundw
            case rel => exact ⟨k + 1, by omega, by go_num, hw4, srchK_none hno.out HA.out⟩
            case measure => simp [intOf]; omega
      · obtain rfl : k = n := by omega
        have HN := Lib.hid (HS.out.trans hno.out)
        go_wp2
        go_ret
        rw [HN.out]
        exact ⟨rfl, hb⟩
def HAt (N : Int) (X : List Int) (m : Nat) : Option (List Nat) := if isGraph N X then srch (mayH N.toNat (X.map Int.toNat) m) (holdsH N.toNat (X.map Int.toNat)) N.toNat m [] else none
set_option maxRecDepth 100000 in
theorem HAt_no {N : Int} {X : List Int} {m : Nat} (h : isGraph N X = false) : HAt N X m = none := by rw [HAt, h]; rfl
set_option maxRecDepth 100000 in
theorem HAt_ok {n m : Nat} {Q : List Nat} (h : GOk n Q) : HAt n (ints Q) m = srch (mayH n Q m) (holdsH n Q) n m [] := by rw [HAt, if_pos h.is, nats_ints4, Int.toNat_natCast]
set_option maxRecDepth 100000 in
set_option maxHeartbeats 2000000 in
theorem HFirst_any (N : Int) (A : Option Addr) (n m c bG2 b0 : Nat) (X : List Int) (w : World) (hX : RI w A n X) (hn : n ≤ 9223372036854775807) (hG : Blk w bG2 26 #[.int .i64 N, .slice A n c]) (hM : Blk w b0 3 #[.int .i64 m]) (hm0 : 0 < m) (hm7 : m ≤ 7) :
    Calls Tryz.prog 63 #[.agg #[.int .i64 N, .slice A n c], .int .i64 m, .func (.func 147) #[] #[.pointer (some ⟨b0, 0, none⟩), .pointer (some ⟨bG2, 0, none⟩)], .func (.func 149) #[] #[.pointer (some ⟨bG2, 0, none⟩)]] w (GivesIB (optL (HAt N X m)) (HAt N X m).isSome w) := by
  have hnq := neq_nil
  rcases isGraph_cases N X with hg | ⟨k, Q, rfl, rfl, h⟩
  · have Hg := Lib.hid hg
    rw [HAt_no hg]
    clear hg
    go_enter Tryz.func63, Tryz.ntmps63
    go_wp2_with fail
    refine (implIsGraph_is (hX.up (by go_grown)) hn Hg.out).mono ?_
    rintro e w1 ⟨rfl, hb1⟩
    have hU1 : Up w w1 := Up.then_ (by go_grown) hb1
    go_wp2
    go_ret2
    exact givesIB_none (OwnI.nil_ _ _) (Nat.le_refl _) hU1
  · obtain rfl : n = k := by rw [← hX.1, ints_len, h.len]
    rw [HAt_ok h]
    go_enter Tryz.func63, Tryz.ntmps63
    go_wp2_with fail
    obtain ⟨W0, hW0⟩ : ∃ W0, W0 = (((((w.alloc (.cells #[.int .i64 n, .slice A n c] 26)).alloc (.cells #[.int .i64 m] 3)).alloc (.cells #[.func (.func 147) #[] #[.pointer (some ⟨b0, 0, none⟩), .pointer (some ⟨bG2, 0, none⟩)]] 61)).alloc (.cells #[.func (.func 149) #[] #[.pointer (some ⟨bG2, 0, none⟩)]] 61)).alloc (.cells #[.func (.func 124) #[] #[.pointer (some ⟨w.heap.size + 1, 0, none⟩), .pointer (some ⟨w.heap.size + 1 + 1 + 1, 0, none⟩), .pointer (some ⟨w.heap.size, 0, none⟩), .pointer (some ⟨w.heap.size + 1 + 1, 0, none⟩), .pointer (some ⟨w.heap.size + 1 + 1 + 1 + 1, 0, none⟩)]] 79)) := ⟨_, rfl⟩
    have hbG : Blk W0 (w.heap.size) 26 #[.int .i64 n, .slice A n c] := by rw [hW0]; exact (Blk.new_at (w := w) (t := 26) (cs := #[.int .i64 n, .slice A n c]) (g := w.heap.size) (by simp)).up (by go_grown)
    have hbN : Blk W0 (w.heap.size + 1) 3 #[.int .i64 m] := by rw [hW0]; exact (Blk.new_at (w := (w.alloc (.cells #[.int .i64 n, .slice A n c] 26))) (t := 3) (cs := #[.int .i64 m]) (g := w.heap.size + 1) (by simp)).up (by go_grown)
    have hbM : Blk W0 (w.heap.size + 1 + 1) 61 #[.func (.func 147) #[] #[.pointer (some ⟨b0, 0, none⟩), .pointer (some ⟨bG2, 0, none⟩)]] := by rw [hW0]; exact (Blk.new_at (w := ((w.alloc (.cells #[.int .i64 n, .slice A n c] 26)).alloc (.cells #[.int .i64 m] 3))) (t := 61) (cs := #[.func (.func 147) #[] #[.pointer (some ⟨b0, 0, none⟩), .pointer (some ⟨bG2, 0, none⟩)]]) (g := w.heap.size + 1 + 1) (by simp)).up (by go_grown)
    have hbH : Blk W0 (w.heap.size + 1 + 1 + 1) 61 #[.func (.func 149) #[] #[.pointer (some ⟨bG2, 0, none⟩)]] := by rw [hW0]; exact (Blk.new_at (w := (((w.alloc (.cells #[.int .i64 n, .slice A n c] 26)).alloc (.cells #[.int .i64 m] 3)).alloc (.cells #[.func (.func 147) #[] #[.pointer (some ⟨b0, 0, none⟩), .pointer (some ⟨bG2, 0, none⟩)]] 61))) (t := 61) (cs := #[.func (.func 149) #[] #[.pointer (some ⟨bG2, 0, none⟩)]]) (g := w.heap.size + 1 + 1 + 1) (by simp)).up (by go_grown)
    have hbS : Blk W0 (w.heap.size + 1 + 1 + 1 + 1) 79 #[.func (.func 124) #[] #[.pointer (some ⟨w.heap.size + 1, 0, none⟩), .pointer (some ⟨w.heap.size + 1 + 1 + 1, 0, none⟩), .pointer (some ⟨w.heap.size, 0, none⟩), .pointer (some ⟨w.heap.size + 1 + 1, 0, none⟩), .pointer (some ⟨w.heap.size + 1 + 1 + 1 + 1, 0, none⟩)]] := by rw [hW0]; exact (Blk.new_at (w := ((((w.alloc (.cells #[.int .i64 n, .slice A n c] 26)).alloc (.cells #[.int .i64 m] 3)).alloc (.cells #[.func (.func 147) #[] #[.pointer (some ⟨b0, 0, none⟩), .pointer (some ⟨bG2, 0, none⟩)]] 61)).alloc (.cells #[.func (.func 149) #[] #[.pointer (some ⟨bG2, 0, none⟩)]] 61))) (t := 79) (cs := #[.func (.func 124) #[] #[.pointer (some ⟨w.heap.size + 1, 0, none⟩), .pointer (some ⟨w.heap.size + 1 + 1 + 1, 0, none⟩), .pointer (some ⟨w.heap.size, 0, none⟩), .pointer (some ⟨w.heap.size + 1 + 1, 0, none⟩), .pointer (some ⟨w.heap.size + 1 + 1 + 1 + 1, 0, none⟩)]]) (g := w.heap.size + 1 + 1 + 1 + 1) (by simp)).up (by go_grown)
    have hU0 : Up w W0 := by rw [hW0]; go_grown
    rw [← hW0]
    clear hW0
    have hbx : HBx W0 A n m c (w.heap.size + 1) (w.heap.size + 1 + 1 + 1) w.heap.size (w.heap.size + 1 + 1) (w.heap.size + 1 + 1 + 1 + 1) bG2 b0 := ⟨⟨hbN, hbH⟩, ⟨hbG, hbM⟩, hbS, hG.up hU0, hM.up hU0⟩
    clear hbG hbN hbM hbH hbS
    refine (implIsGraph_is (hX.up hU0) hn h.is).mono ?_
    rintro e w1 ⟨rfl, hb1⟩
    have hU1 := Up.then_ hU0 hb1
    replace hbx := hbx.up hb1
    have hcs := hbx.cells
    go_wp2_with fail
    refine (HSearch_any n m c _ _ _ _ _ bG2 b0 A Q h hm0 hm7 m [] none 0 _ (by simp) (by simp) RI.nil_ (fun _ => rfl) (by simp) (by omega) (hX.up hU1) hbx).mono ?_
    rintro e w2 ⟨hg2, hb2⟩
    have hU2 := Up.then_ hU1 hb2
    rcases hsr : srch (mayH n Q m) (holdsH n Q) n m [] with _ | r
    · rw [hsr] at hg2
      have HSr := Lib.hid hsr
      clear hsr
      obtain rfl := hg2
      go_wp2
      go_ret2
      rw [HSr.out]
      exact givesIB_none (OwnI.nil_ _ _) (Nat.le_refl _) hU2
    · rw [hsr] at hg2
      have HSr := Lib.hid hsr
      clear hsr
      obtain ⟨g5, c5, rfl, hown5⟩ := hg2
      go_wp2
      go_ret2
      rw [HSr.out]
      exact givesIB_some hown5 hU1.size hU2
end Go.Proofs.YthncdjcmlpiebaaGreat
namespace Go.Proofs.YthncdjcmlpiebaaGreat
open Go.RowKit
set_option maxRecDepth 100000 in
set_option maxHeartbeats 4000000 in
theorem implFindHole_any (N : Int) (A : Option Addr) (n c : Nat) (X : List Int) (w : World) (hX : RI w A n X) (hn : n ≤ 9223372036854775807) :
    Calls Tryz.prog 100 #[.agg #[.int .i64 N, .slice A n c]] w (GivesIB (optL (holeOf N X)) (holeOf N X).isSome w) := by
  obtain ⟨W0, hW0⟩ : ∃ W0, W0 = w.alloc (.cells #[.int .i64 N, .slice A n c] 26) := ⟨_, rfl⟩
  have hbk : Blk W0 w.heap.size 26 #[.int .i64 N, .slice A n c] := by rw [hW0]; exact Blk.new _ _ _
  have hU0 : Up w W0 := by rw [hW0]; go_grown
  have hs0 : W0.heap.size = w.heap.size + 1 := by rw [hW0]; simp
  have hX0 := hX.up hU0
  have HW := Lib.hid hW0
  clear hW0
  rcases isGraph_cases N X with hg | ⟨k, Q, rfl, rfl, h⟩
  · have HA := Lib.hid fun k => HAt_no (m := k) hg
    rw [holeOf_no hg]
    obtain ⟨M, hM⟩ : ∃ M, M = (if (7 : Int) < N then (7 : Int) else N) := ⟨_, rfl⟩
    have hM7 : M ≤ 7 := by rw [hM]; split <;> omega
    have hmin := hM.symm
    clear hg hM
    go_enter Tryz.func100, Tryz.ntmps100
    go_wp2_with fail
    rw [← HW.out]
    go_loopg [4] 8 (fun g s wr => ∃ (b k : Nat), s = .pointer (some ⟨b, 0, none⟩) ∧ w.heap.size + 1 ≤ b ∧ Blk wr b 3 #[.int .i64 (k : Nat)] ∧ Below (w.heap.size + 1) W0 wr ∧ 4 ≤ k ∧ k + g = 12)
    case atStart => exact ⟨w.heap.size + 1, 4, rfl, Nat.le_refl _, Blk.new_at hs0, by rw [← hs0]; exact by go_grown, by omega, by omega⟩
    case round =>
      obtain ⟨b, k, rfl, hbge, hbb, hb1, hk4, hkg⟩ := hrel
      obtain ⟨wo, rfl⟩ : ∃ wo : World, wo = wr := ⟨_, rfl⟩
      have hUp0 : Up W0 wo := by show Below W0.heap.size W0 wo; rw [hs0]; exact hb1
      have hXr := hX0.up hUp0
      have hbkr := hbk.below hb1 (Nat.lt_succ_self _)
      have hyk := hbkr.two
      have hyb := hbb.one
      have hlb := hbb.lt
      have hUw : Up w wo := Up.then_ hU0 hUp0
      clear hUp0
      by_cases hkM : (k : Int) ≤ M
      · have hk7 : k ≤ 7 := by omega
        have hfirst := HFirst_any N A n k c w.heap.size b X wo hXr hn hbkr hbb (by omega) hk7
        rw [HA.out] at hfirst
        go_wp2_with fail
        refine hfirst.mono ?_
        clear hfirst
        rintro e w1 ⟨A1, c1, rfl, _, hb2⟩
        have hU1 : Up wo w1 := hb2
        have hyb1 := (hbb.up hU1).one
        have hyk1 := (hbkr.up hU1).two
        have hsz := hb1.size
        have hsz1 := hU1.size
        have hle : w.heap.size + 1 ≤ w1.heap.size := by omega
        have hw1 := (hb1.trans (hb2.mono (by omega))).alloc hle (.cells #[.int .i64 ((k : Int) + 1)] 3)
        have hnew : Blk (w1.alloc (.cells #[.int .i64 ((k : Int) + 1)] 3)) w1.heap.size 3 #[.int .i64 ((k + 1 : Nat) : Int)] := by rw [Int.natCast_succ]; exact Blk.new w1 3 #[.int .i64 ((k : Int) + 1)]
        have hk4' : 4 ≤ k + 1 := by omega
        have hkg' : k + 1 + (gk - 1) = 12 := by omega
        have hgk : gk - 1 < gk := by omega
        have hwr : wrap64 ((k : Int) + 1) = (k : Int) + 1 := IntWalk.wrap64_in _ ⟨by omega, by omega⟩
        clear hsz hsz1 hkg hb1 hb2
        clear hyb hyk hlb hXr hbkr hbb hX0 hbk hX HA hM7 hk7 hkM hbge hUw hmin
        go_wp2
        go_roundg (gk - 1)
        case measure => exact hgk
        case rel => exact ⟨w1.heap.size, k + 1, rfl, hle, hnew, hw1, hk4', hkg'⟩
      · have dk : decide ((k : Int) ≤ M) = false := decide_eq_false hkM
        go_wp2
        go_ret2
        exact givesIB_none (OwnI.nil_ _ _) (Nat.le_refl _) hUw
  · obtain rfl : n = k := by rw [← hX.1, ints_len, h.len]
    have hn7 := h.le
    have HA := Lib.hid fun k => show HAt n (ints Q) k = holeM n Q k by rw [HAt_ok h, holeM, srchH_eq k [] (by simp)]
    have hmin : (if (7 : Int) < (n : Int) then (7 : Int) else (n : Int)) = (n : Int) := if_neg (by omega)
    have h7f : ¬ (7 : Int) < (n : Int) := by omega
    have HO := Lib.hid (holeOf_ok h)
    go_enter Tryz.func100, Tryz.ntmps100
    go_wp2_with fail
    rw [← HW.out]
    go_loopg [4] 8 (fun g s wr => ∃ (b k : Nat), s = .pointer (some ⟨b, 0, none⟩) ∧ w.heap.size + 1 ≤ b ∧ Blk wr b 3 #[.int .i64 (k : Nat)] ∧ Below (w.heap.size + 1) W0 wr ∧ 4 ≤ k ∧ k + g = 12 ∧ Hid ((k ≤ n + 1 ∨ k = 4) ∧ holeK n Q (k - 4) = none))
    case atStart => exact ⟨w.heap.size + 1, 4, rfl, Nat.le_refl _, Blk.new_at hs0, by rw [← hs0]; exact by go_grown, by omega, by omega, .inr rfl, rfl⟩
    case round =>
      obtain ⟨b, k, rfl, hbge, hbb, hb1, hk4, hkg, hK⟩ := hrel
      obtain ⟨wo, rfl⟩ : ∃ wo : World, wo = wr := ⟨_, rfl⟩
      have hUp0 : Up W0 wo := by show Below W0.heap.size W0 wo; rw [hs0]; exact hb1
      have hXr := hX0.up hUp0
      have hbkr := hbk.below hb1 (Nat.lt_succ_self _)
      have hyk := hbkr.two
      have hyb := hbb.one
      have hlb := hbb.lt
      have hUw : Up w wo := Up.then_ hU0 hUp0
      clear hUp0
      by_cases hkM : k ≤ n
      · have hk7 : k ≤ 7 := by omega
        have hfirst := HFirst_any n A n k c w.heap.size b (ints Q) wo hXr hn hbkr hbb (by omega) hk7
        rw [HA.out] at hfirst
        rcases hsr : holeM n Q k with _ | r
        · have HK := Lib.hid (show holeK n Q (k + 1 - 4) = none by
            have := holeK_none hK.out.2 (by rw [show k - 4 + 4 = k by omega]; exact hsr)
            rwa [show k - 4 + 1 = k + 1 - 4 by omega] at this)
          rw [hsr] at hfirst
          clear hsr
          go_wp2_with fail
          refine hfirst.mono ?_
          clear hfirst
          rintro e w1 ⟨A1, c1, rfl, _, hb2⟩
          have hU1 : Up wo w1 := hb2
          have hyb1 := (hbb.up hU1).one
          have hyk1 := (hbkr.up hU1).two
          have hsz := hb1.size
          have hsz1 := hU1.size
          have hle : w.heap.size + 1 ≤ w1.heap.size := by omega
          have hw1 := (hb1.trans (hb2.mono (by omega))).alloc hle (.cells #[.int .i64 ((k : Int) + 1)] 3)
          have hnew : Blk (w1.alloc (.cells #[.int .i64 ((k : Int) + 1)] 3)) w1.heap.size 3 #[.int .i64 ((k + 1 : Nat) : Int)] := by rw [Int.natCast_succ]; exact Blk.new w1 3 #[.int .i64 ((k : Int) + 1)]
          have hk4' : 4 ≤ k + 1 := by omega
          have hkg' : k + 1 + (gk - 1) = 12 := by omega
          have hgk : gk - 1 < gk := by omega
          have hwr : wrap64 ((k : Int) + 1) = (k : Int) + 1 := IntWalk.wrap64_in _ ⟨by omega, by omega⟩
          have hkn1 : k + 1 ≤ n + 1 := Nat.succ_le_succ hkM
          clear hsz hsz1 hkg hb1 hb2
          clear hyb hyk hlb hXr hbkr hbb hX0 hbk hX HA hk7 hkM hbge hUw hmin h7f HO hK hn7
          go_wp2
          go_roundg (gk - 1)
          case measure => exact hgk
          case rel => exact ⟨w1.heap.size, k + 1, rfl, hle, hnew, hw1, hk4', hkg', .inl hkn1, HK.out⟩
        · have HK := Lib.hid (show holeOf n (ints Q) = some r by rw [HO.out]; exact holeK_some hK.out.2 (by rw [show k - 4 + 4 = k by omega]; exact hsr) (n - 3) (by omega))
          rw [hsr] at hfirst
          clear hsr
          go_wp2_with fail
          refine hfirst.mono ?_
          clear hfirst
          rintro e w1 ⟨A1, c1, rfl, hown, hb2⟩
          have hUw1 := Up.then_ hUw hb2
          replace hown := hown.more (base' := w.heap.size) hUw.size
          go_wp2
          go_ret2
          rw [HK.out]
          exact ⟨A1, c1, rfl, hown, hUw1⟩
      · have HK := Lib.hid (show holeOf n (ints Q) = none by
          rw [HO.out, show n - 3 = k - 4 by have := hK.out.1; omega]
          exact hK.out.2)
        have dk : decide ((k : Int) ≤ (n : Int)) = false := decide_eq_false (by omega)
        go_wp2
        go_ret2
        rw [HK.out]
        exact givesIB_none (OwnI.nil_ _ _) (Nat.le_refl _) hUw
end Go.Proofs.YthncdjcmlpiebaaGreat
