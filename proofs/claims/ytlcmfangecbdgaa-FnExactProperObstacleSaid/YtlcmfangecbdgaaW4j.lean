/- Walks of chapter 4: is it an obstacle to a model by intervals? -/
import Derived.Test.YtlcmfangecbdgaaW4i
import Derived.Test.YtlcmfangecbdgaaW4s
import Derived.Test.YtlcmfangecbdgaaW11d
namespace Go.Proofs.Ytlcmfangecbdgaa
open Go.RowKit
def isIvObs (N : Int) (X l : List Int) : Bool := isHoleL N X l || (decide (l.length = 3) && isTrip N X (l.getD 0 0) (l.getD 1 0) (l.getD 2 0))
theorem implIsHole_is {N : Int} {A B : Option Addr} {n c m d : Nat} {X l : List Int} {w : World} {r : Bool} (hX : RI w A n X) (hL : RI w B m l) (hn : n ≤ 9223372036854775807) (hm : m ≤ 9223372036854775807) (hmd : m ≤ d) (hr : isHoleL N X l = r) :
    Calls Try.prog 67 #[.agg #[.int .i64 N, .slice A n c], .slice B m d] w fun e w' => e = .returned (.bool r) ∧ Below w.heap.size w w' := by
  subst hr; exact implIsHole_any N A B n c m d X l w hX hL hn hm hmd
set_option maxRecDepth 100000 in
set_option maxHeartbeats 2000000 in
theorem implIsIvObs_any (N : Int) (A B : Option Addr) (n c m d : Nat) (X l : List Int) (w : World) (hX : RI w A n X) (hL : RI w B m l) (hn : n ≤ 9223372036854775807) (hm : m ≤ 9223372036854775807) (hmd : m ≤ d) :
    Calls Try.prog 40 #[.agg #[.int .i64 N, .slice A n c], .slice B m d] w fun e w' => e = .returned (.bool (isIvObs N X l)) ∧ Below w.heap.size w w' := by
  have hbk := Blk.new w 27 #[.int .i64 N, .slice A n c]
  have hU0 : Up w (w.alloc (.cells #[.int .i64 N, .slice A n c] 27)) := by go_grown
  have hml := hL.1
  have hXa := hX.up hU0
  have hLa := hL.up hU0
  have hya := hbk.two
  have hla := hbk.lt
  obtain ⟨h1, hh1⟩ : ∃ h1, h1 = isHoleL N X l := ⟨_, rfl⟩
  have H1 := Lib.hid hh1.symm
  by_cases h3 : m = 3
  rotate_left
  · have HR := Lib.hid (show isIvObs N X l = h1 by rw [isIvObs, H1.out, hml, decide_eq_false h3, Bool.false_and, Bool.or_false])
    rw [HR.out]
    have d3 : ((m : Int) == 3) = false := by rw [beq_eq_false_iff_ne]; omega
    clear hh1 h3 HR
    obtain ⟨wa, hwa⟩ : ∃ wa, wa = w.alloc (.cells #[.int .i64 N, .slice A n c] 27) := ⟨_, rfl⟩
    rw [← hwa] at hU0 hXa hLa hya hla
    cases h1
    all_goals
      go_enter Try.func40, Try.ntmps40
      go_wp2
      rw [← hwa]
      have hV0 : Up wa wa.drew := (Up.refl _).drew
      refine wp_region_calm (S := (fun w' => Up wa w' ∧ (∀ b o, b < wa.heap.size → w'.cell? ⟨b, o, none⟩ = wa.cell? ⟨b, o, none⟩))) (by kernel_rfl) (by kernel_rfl) (by exact ⟨hV0, fun _ _ hb => hV0.cell hb⟩) ?_
      repeat (first | (refine CalmSeq.cons undef (Calm.off (by rfl)) ?_; (try simp only [Act.put, List.setIfInBounds_toArray, List.set_cons_zero, List.set_cons_succ])) | (refine CalmSeq.cons ?_ (Calm.val (by rfl) ?_) ?_; rotate_left; (intro wC hSw; (try dsimp only at hSw); go_simp; done); (try simp only [Act.put, List.setIfInBounds_toArray, List.set_cons_zero, List.set_cons_succ])) | (refine CalmSeq.cons ?_ (Calm.val (by rfl) ?_) ?_; rotate_left; (intro wC hSw; (try dsimp only at hSw); go_simp; with_reducible rfl); (try simp only [Act.put, List.setIfInBounds_toArray, List.set_cons_zero, List.set_cons_succ])) | ((refine CalmSeq.cons ?_ (Calm.call (f := ?_) (args := ?_) (by rfl) ?_ (fun wC hSw => ?_)) ?_; rotate_left 3; (intro wC; go_simp; (refine ⟨?_, ?_⟩ <;> with_reducible rfl)); (go_at_call 67; (with_reducible refine (implIsHole_is (hXa.up hSw.1) (hLa.up hSw.1) hn hm hmd H1.out).mono ?_); rintro e wD ⟨rfl, hbD⟩; apply And.intro; (with_reducible rfl); (have hUD := Up.then_ hSw.1 hbD; exact ⟨hUD, fun _ _ hb => hUD.cell hb⟩))); (try simp only [Act.put, List.setIfInBounds_toArray, List.set_cons_zero, List.set_cons_succ])))
      intro w1 hS1
      have hU1 : Up wa w1 := hS1.1
      clear hS1 hV0
      go_wp2
      go_ret
      exact ⟨rfl, Up.then_ hU0 hU1⟩
  · subst h3
    obtain ⟨ad, rfl, habs, hcell⟩ := hLa.addr (by omega)
    have c0 := hcell 0 (by omega)
    have c1 := hcell 1 (by omega)
    have c2 := hcell 2 (by omega)
    rw [show ad.add 1 = ⟨ad.block, ad.off + 1, none⟩ from rfl] at c1
    rw [show ad.add 2 = ⟨ad.block, ad.off + 2, none⟩ from rfl] at c2
    have HT := Lib.hid (show isIvObs N X l = (h1 || isTrip N X (l.getD 0 0) (l.getD 1 0) (l.getD 2 0)) by rw [isIvObs, H1.out, hml, decide_eq_true rfl, Bool.true_and])
    obtain ⟨x, hx⟩ : ∃ x, x = l.getD 0 0 := ⟨_, rfl⟩
    obtain ⟨y, hy⟩ : ∃ y, y = l.getD 1 0 := ⟨_, rfl⟩
    obtain ⟨z, hz⟩ : ∃ z, z = l.getD 2 0 := ⟨_, rfl⟩
    rw [← hx] at c0 HT
    rw [← hy] at c1 HT
    rw [← hz] at c2 HT
    obtain ⟨t, ht⟩ : ∃ t, t = isTrip N X x y z := ⟨_, rfl⟩
    rw [← ht] at HT
    have H2 := Lib.hid ht.symm
    rw [HT.out]
    have c00 : (w.alloc (.cells #[.int .i64 N, .slice A n c] 27)).cell? ad = some (.int .i64 x) := by have := c0; rwa [add_zero_] at this
    clear hh1 HT hx hy hz ht hcell hml
    obtain ⟨wa, hwa⟩ : ∃ wa, wa = w.alloc (.cells #[.int .i64 N, .slice A n c] 27) := ⟨_, rfl⟩
    rw [← hwa] at hU0 hXa hLa hya hla c0 c1 c2 c00 habs
    cases h1
    all_goals
      go_enter Try.func40, Try.ntmps40
      go_wp2
      rw [← hwa]
      have hV0 : Up wa wa.drew := (Up.refl _).drew
      refine wp_region_calm (S := (fun w' => Up wa w' ∧ (∀ b o, b < wa.heap.size → w'.cell? ⟨b, o, none⟩ = wa.cell? ⟨b, o, none⟩) ∧ w'.cell? (ad.add 0) = some (.int .i64 x) ∧ w'.cell? (⟨ad.block, ad.off + 1, none⟩) = some (.int .i64 y) ∧ w'.cell? (⟨ad.block, ad.off + 2, none⟩) = some (.int .i64 z) ∧ w'.cell? (ad) = some (.int .i64 x))) (by kernel_rfl) (by kernel_rfl) (by exact ⟨hV0, fun _ _ hb => hV0.cell hb, (hV0.cell (by first | assumption | (rw [block_of_add]; assumption))).trans (by assumption), (hV0.cell (by first | assumption | (rw [block_of_add]; assumption))).trans (by assumption), (hV0.cell (by first | assumption | (rw [block_of_add]; assumption))).trans (by assumption), (hV0.cell (by first | assumption | (rw [block_of_add]; assumption))).trans (by assumption)⟩) ?_
      repeat (first | (refine CalmSeq.cons undef (Calm.off (by rfl)) ?_; (try simp only [Act.put, List.setIfInBounds_toArray, List.set_cons_zero, List.set_cons_succ])) | (refine CalmSeq.cons ?_ (Calm.val (by rfl) ?_) ?_; rotate_left; (intro wC hSw; (try dsimp only at hSw); go_simp; done); (try simp only [Act.put, List.setIfInBounds_toArray, List.set_cons_zero, List.set_cons_succ])) | (refine CalmSeq.cons ?_ (Calm.val (by rfl) ?_) ?_; rotate_left; (intro wC hSw; (try dsimp only at hSw); go_simp; with_reducible rfl); (try simp only [Act.put, List.setIfInBounds_toArray, List.set_cons_zero, List.set_cons_succ])) | ((refine CalmSeq.cons ?_ (Calm.call (f := ?_) (args := ?_) (by rfl) ?_ (fun wC hSw => ?_)) ?_; rotate_left 3; (intro wC; go_simp; (refine ⟨?_, ?_⟩ <;> with_reducible rfl)); (go_at_call 67; (with_reducible refine (implIsHole_is (hXa.up hSw.1) (hLa.up hSw.1) hn hm hmd H1.out).mono ?_); rintro e wD ⟨rfl, hbD⟩; apply And.intro; (with_reducible rfl); (have hUD := Up.then_ hSw.1 hbD; exact ⟨hUD, fun _ _ hb => hUD.cell hb, (hUD.cell (by first | assumption | (rw [block_of_add]; assumption))).trans (by assumption), (hUD.cell (by first | assumption | (rw [block_of_add]; assumption))).trans (by assumption), (hUD.cell (by first | assumption | (rw [block_of_add]; assumption))).trans (by assumption), (hUD.cell (by first | assumption | (rw [block_of_add]; assumption))).trans (by assumption)⟩))); (try simp only [Act.put, List.setIfInBounds_toArray, List.set_cons_zero, List.set_cons_succ])) | ((refine CalmSeq.cons ?_ (Calm.call (f := ?_) (args := ?_) (by rfl) ?_ (fun wC hSw => ?_)) ?_; rotate_left 3; (intro wC; go_simp; (refine ⟨?_, ?_⟩ <;> with_reducible rfl)); (go_at_call 17; (with_reducible refine (implIsTriple_is (hXa.up hSw.1) hn H2.out).mono ?_); rintro e wD ⟨rfl, hbD⟩; apply And.intro; (with_reducible rfl); (have hUD := Up.then_ hSw.1 hbD; exact ⟨hUD, fun _ _ hb => hUD.cell hb, (hUD.cell (by first | assumption | (rw [block_of_add]; assumption))).trans (by assumption), (hUD.cell (by first | assumption | (rw [block_of_add]; assumption))).trans (by assumption), (hUD.cell (by first | assumption | (rw [block_of_add]; assumption))).trans (by assumption), (hUD.cell (by first | assumption | (rw [block_of_add]; assumption))).trans (by assumption)⟩))); (try simp only [Act.put, List.setIfInBounds_toArray, List.set_cons_zero, List.set_cons_succ])))
      intro w1 hS1
      have hU1 : Up wa w1 := hS1.1
      clear hS1 hV0
      go_wp2
      go_ret
      exact ⟨rfl, Up.then_ hU0 hU1⟩
theorem specIsHole_is {N : Int} {A B : Option Addr} {n c m d : Nat} {X l : List Int} {w : World} {r : Bool} (hX : RI w A n X) (hL : RI w B m l) (hn : n ≤ 9223372036854775807) (hm : m ≤ 9223372036854775807) (hr : isHoleL N X l = r) :
    Calls Try.prog 66 #[.agg #[.int .i64 N, .slice A n c], .slice B m d] w fun e w' => e = .returned (.bool r) ∧ Below w.heap.size w w' := by
  subst hr; exact specIsHole_any N A B n c m d X l w hX hL hn hm
set_option maxRecDepth 100000 in
set_option maxHeartbeats 2000000 in
theorem specIsIvObs_any (N : Int) (A B : Option Addr) (n c m d : Nat) (X l : List Int) (w : World) (hX : RI w A n X) (hL : RI w B m l) (hn : n ≤ 9223372036854775807) (hm : m ≤ 9223372036854775807) :
    Calls Try.prog 38 #[.agg #[.int .i64 N, .slice A n c], .slice B m d] w fun e w' => e = .returned (.bool (isIvObs N X l)) ∧ Below w.heap.size w w' := by
  have hbk := Blk.new w 27 #[.int .i64 N, .slice A n c]
  have hU0 : Up w (w.alloc (.cells #[.int .i64 N, .slice A n c] 27)) := by go_grown
  have hml := hL.1
  have hXa := hX.up hU0
  have hLa := hL.up hU0
  have hya := hbk.two
  have hla := hbk.lt
  obtain ⟨h1, hh1⟩ : ∃ h1, h1 = isHoleL N X l := ⟨_, rfl⟩
  have H1 := Lib.hid hh1.symm
  by_cases h3 : m = 3
  rotate_left
  · have HR := Lib.hid (show isIvObs N X l = h1 by rw [isIvObs, H1.out, hml, decide_eq_false h3, Bool.false_and, Bool.or_false])
    rw [HR.out]
    have d3 : ((m : Int) == 3) = false := by rw [beq_eq_false_iff_ne]; omega
    clear hh1 h3 HR
    obtain ⟨wa, hwa⟩ : ∃ wa, wa = w.alloc (.cells #[.int .i64 N, .slice A n c] 27) := ⟨_, rfl⟩
    rw [← hwa] at hU0 hXa hLa hya hla
    cases h1
    all_goals
      go_enter Try.func38, Try.ntmps38
      go_wp2
      rw [← hwa]
      have hV0 : Up wa wa.drew := (Up.refl _).drew
      refine wp_region_calm (S := (fun w' => Up wa w' ∧ (∀ b o, b < wa.heap.size → w'.cell? ⟨b, o, none⟩ = wa.cell? ⟨b, o, none⟩))) (by kernel_rfl) (by kernel_rfl) (by exact ⟨hV0, fun _ _ hb => hV0.cell hb⟩) ?_
      repeat (first | (refine CalmSeq.cons undef (Calm.off (by rfl)) ?_; (try simp only [Act.put, List.setIfInBounds_toArray, List.set_cons_zero, List.set_cons_succ])) | (refine CalmSeq.cons ?_ (Calm.val (by rfl) ?_) ?_; rotate_left; (intro wC hSw; (try dsimp only at hSw); go_simp; done); (try simp only [Act.put, List.setIfInBounds_toArray, List.set_cons_zero, List.set_cons_succ])) | (refine CalmSeq.cons ?_ (Calm.val (by rfl) ?_) ?_; rotate_left; (intro wC hSw; (try dsimp only at hSw); go_simp; with_reducible rfl); (try simp only [Act.put, List.setIfInBounds_toArray, List.set_cons_zero, List.set_cons_succ])) | ((refine CalmSeq.cons ?_ (Calm.call (f := ?_) (args := ?_) (by rfl) ?_ (fun wC hSw => ?_)) ?_; rotate_left 3; (intro wC; go_simp; (refine ⟨?_, ?_⟩ <;> with_reducible rfl)); (go_at_call 66; (with_reducible refine (specIsHole_is (hXa.up hSw.1) (hLa.up hSw.1) hn hm H1.out).mono ?_); rintro e wD ⟨rfl, hbD⟩; apply And.intro; (with_reducible rfl); (have hUD := Up.then_ hSw.1 hbD; exact ⟨hUD, fun _ _ hb => hUD.cell hb⟩))); (try simp only [Act.put, List.setIfInBounds_toArray, List.set_cons_zero, List.set_cons_succ])))
      intro w1 hS1
      have hU1 : Up wa w1 := hS1.1
      clear hS1 hV0
      go_wp2
      go_ret
      exact ⟨rfl, Up.then_ hU0 hU1⟩
  · subst h3
    obtain ⟨ad, rfl, habs, hcell⟩ := hLa.addr (by omega)
    have c0 := hcell 0 (by omega)
    have c1 := hcell 1 (by omega)
    have c2 := hcell 2 (by omega)
    rw [show ad.add 1 = ⟨ad.block, ad.off + 1, none⟩ from rfl] at c1
    rw [show ad.add 2 = ⟨ad.block, ad.off + 2, none⟩ from rfl] at c2
    have HT := Lib.hid (show isIvObs N X l = (h1 || isTrip N X (l.getD 0 0) (l.getD 1 0) (l.getD 2 0)) by rw [isIvObs, H1.out, hml, decide_eq_true rfl, Bool.true_and])
    obtain ⟨x, hx⟩ : ∃ x, x = l.getD 0 0 := ⟨_, rfl⟩
    obtain ⟨y, hy⟩ : ∃ y, y = l.getD 1 0 := ⟨_, rfl⟩
    obtain ⟨z, hz⟩ : ∃ z, z = l.getD 2 0 := ⟨_, rfl⟩
    rw [← hx] at c0 HT
    rw [← hy] at c1 HT
    rw [← hz] at c2 HT
    obtain ⟨t, ht⟩ : ∃ t, t = isTrip N X x y z := ⟨_, rfl⟩
    rw [← ht] at HT
    have H2 := Lib.hid ht.symm
    rw [HT.out]
    have c00 : (w.alloc (.cells #[.int .i64 N, .slice A n c] 27)).cell? ad = some (.int .i64 x) := by have := c0; rwa [add_zero_] at this
    clear hh1 HT hx hy hz ht hcell hml
    obtain ⟨wa, hwa⟩ : ∃ wa, wa = w.alloc (.cells #[.int .i64 N, .slice A n c] 27) := ⟨_, rfl⟩
    rw [← hwa] at hU0 hXa hLa hya hla c0 c1 c2 c00 habs
    cases h1
    all_goals
      go_enter Try.func38, Try.ntmps38
      go_wp2
      rw [← hwa]
      have hV0 : Up wa wa.drew := (Up.refl _).drew
      refine wp_region_calm (S := (fun w' => Up wa w' ∧ (∀ b o, b < wa.heap.size → w'.cell? ⟨b, o, none⟩ = wa.cell? ⟨b, o, none⟩) ∧ w'.cell? (ad.add 0) = some (.int .i64 x) ∧ w'.cell? (⟨ad.block, ad.off + 1, none⟩) = some (.int .i64 y) ∧ w'.cell? (⟨ad.block, ad.off + 2, none⟩) = some (.int .i64 z) ∧ w'.cell? (ad) = some (.int .i64 x))) (by kernel_rfl) (by kernel_rfl) (by exact ⟨hV0, fun _ _ hb => hV0.cell hb, (hV0.cell (by first | assumption | (rw [block_of_add]; assumption))).trans (by assumption), (hV0.cell (by first | assumption | (rw [block_of_add]; assumption))).trans (by assumption), (hV0.cell (by first | assumption | (rw [block_of_add]; assumption))).trans (by assumption), (hV0.cell (by first | assumption | (rw [block_of_add]; assumption))).trans (by assumption)⟩) ?_
      repeat (first | (refine CalmSeq.cons undef (Calm.off (by rfl)) ?_; (try simp only [Act.put, List.setIfInBounds_toArray, List.set_cons_zero, List.set_cons_succ])) | (refine CalmSeq.cons ?_ (Calm.val (by rfl) ?_) ?_; rotate_left; (intro wC hSw; (try dsimp only at hSw); go_simp; done); (try simp only [Act.put, List.setIfInBounds_toArray, List.set_cons_zero, List.set_cons_succ])) | (refine CalmSeq.cons ?_ (Calm.val (by rfl) ?_) ?_; rotate_left; (intro wC hSw; (try dsimp only at hSw); go_simp; with_reducible rfl); (try simp only [Act.put, List.setIfInBounds_toArray, List.set_cons_zero, List.set_cons_succ])) | ((refine CalmSeq.cons ?_ (Calm.call (f := ?_) (args := ?_) (by rfl) ?_ (fun wC hSw => ?_)) ?_; rotate_left 3; (intro wC; go_simp; (refine ⟨?_, ?_⟩ <;> with_reducible rfl)); (go_at_call 66; (with_reducible refine (specIsHole_is (hXa.up hSw.1) (hLa.up hSw.1) hn hm H1.out).mono ?_); rintro e wD ⟨rfl, hbD⟩; apply And.intro; (with_reducible rfl); (have hUD := Up.then_ hSw.1 hbD; exact ⟨hUD, fun _ _ hb => hUD.cell hb, (hUD.cell (by first | assumption | (rw [block_of_add]; assumption))).trans (by assumption), (hUD.cell (by first | assumption | (rw [block_of_add]; assumption))).trans (by assumption), (hUD.cell (by first | assumption | (rw [block_of_add]; assumption))).trans (by assumption), (hUD.cell (by first | assumption | (rw [block_of_add]; assumption))).trans (by assumption)⟩))); (try simp only [Act.put, List.setIfInBounds_toArray, List.set_cons_zero, List.set_cons_succ])) | ((refine CalmSeq.cons ?_ (Calm.call (f := ?_) (args := ?_) (by rfl) ?_ (fun wC hSw => ?_)) ?_; rotate_left 3; (intro wC; go_simp; (refine ⟨?_, ?_⟩ <;> with_reducible rfl)); (go_at_call 15; (with_reducible refine (specIsTriple_is (hXa.up hSw.1) hn H2.out).mono ?_); rintro e wD ⟨rfl, hbD⟩; apply And.intro; (with_reducible rfl); (have hUD := Up.then_ hSw.1 hbD; exact ⟨hUD, fun _ _ hb => hUD.cell hb, (hUD.cell (by first | assumption | (rw [block_of_add]; assumption))).trans (by assumption), (hUD.cell (by first | assumption | (rw [block_of_add]; assumption))).trans (by assumption), (hUD.cell (by first | assumption | (rw [block_of_add]; assumption))).trans (by assumption), (hUD.cell (by first | assumption | (rw [block_of_add]; assumption))).trans (by assumption)⟩))); (try simp only [Act.put, List.setIfInBounds_toArray, List.set_cons_zero, List.set_cons_succ])))
      intro w1 hS1
      have hU1 : Up wa w1 := hS1.1
      clear hS1 hV0
      go_wp2
      go_ret
      exact ⟨rfl, Up.then_ hU0 hU1⟩
end Go.Proofs.Ytlcmfangecbdgaa
