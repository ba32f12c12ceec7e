/- Walks of chapter 4: induced paths, holes, claws, the program's. Walks of chapter 4: claws, the program's. Walks of chapter 4: holes, the program's. Walks of chapter 4: induced paths, holes, claws, the program's. Walks of chapter 4: induced paths, holes, the reference's. -/
import Derived.Test.YthncdjcmlpiebaaW12A
import Derived.Test.YthncdjcmlpiebaaBasA
import Derived.Test.YthncdjcmlpiebaaPurA
import Derived.Test.YthncdjcmlpiebaaW7A
namespace Go.Proofs.Ythncdjcmlpiebaa
open Go.RowKit
theorem joinedP_yes {Q o : List Nat} {J : Nat → Nat → Bool} (h : ∀ k, k < o.length → ∀ i, i < k → edge Q (nb o i) (nb o k) = J i k) : joinedP Q o J = true := joinedP_iff.2 h
end Go.Proofs.Ythncdjcmlpiebaa
namespace Go.Proofs.Ythncdjcmlpiebaa
open Go.RowKit
end Go.Proofs.Ythncdjcmlpiebaa
namespace Go.Proofs.Ythncdjcmlpiebaa
open Go.RowKit
end Go.Proofs.Ythncdjcmlpiebaa
namespace Go.Proofs.Ythncdjcmlpiebaa
open Go.RowKit
end Go.Proofs.Ythncdjcmlpiebaa
namespace Go.Proofs.Ythncdjcmlpiebaa
open Go.RowKit
theorem joinedP_yes2 {n : Nat} {Q o : List Nat} {J : Nat → Nat → Bool} (hq : GOk n Q) (h : ∀ k, k < o.length → ∀ i, i < k → edge Q (nb o k) (nb o i) = J i k) : joinedP Q o J = true :=
  joinedP_iff.2 fun k hk i hi => (hq.edge_comm _ _).trans (h k hk i hi)
theorem joinedP_no2 {n : Nat} {Q o : List Nat} {J : Nat → Nat → Bool} (hq : GOk n Q) {i k : Nat} (hk : k < o.length) (hi : i < k) (h : edge Q (nb o k) (nb o i) ≠ J i k) : joinedP Q o J = false :=
  joinedP_false hk hi fun e => h ((hq.edge_comm _ _).trans e)
theorem add_zero_ (a : Addr) : a.add 0 = a := by unfold Addr.add; simp
set_option maxRecDepth 100000 in
set_option maxHeartbeats 4000000 in
theorem specIsPath_any (N : Int) (A B : Option Addr) (n c m d : Nat) (X l : List Int) (w : World) (hX : RI w A n X) (hL : RI w B m l) (hn : n ≤ 9223372036854775807) (hm : m ≤ 9223372036854775807) :
    Calls Try.prog 102 #[.agg #[.int .i64 N, .slice A n c], .slice B m d] w fun e w' => e = .returned (.bool (isPathL N X l)) ∧ Below w.heap.size w w' := by
  have hbk := Blk.new w 26 #[.int .i64 N, .slice A n c]
  rcases isVerts_cases N X l with hg | ⟨hg, k, Q, o, rfl, rfl, rfl, h, ho⟩
  · have H1 := Lib.hid hg
    have HR := Lib.hid (isPathL_no hg)
    rw [HR.out]
    clear hg
    go_enter Try.func102, Try.ntmps102
    go_wp2_with fail
    refine (l4Distinct_is (hX.up (by go_grown)) (hL.up (by go_grown)) hn hm H1.out).mono ?_
    rintro e w1 ⟨rfl, hb1⟩
    have hU1 : Up w w1 := Up.then_ (by go_grown) hb1
    go_wp2
    go_ret
    exact ⟨rfl, hU1⟩
  · obtain rfl : n = k := by rw [← hX.1, ints_len, h.len]
    have hol : o.length = m := by rw [← hL.1, ints_len]
    have H1 := Lib.hid hg
    have hl7 : m ≤ 7 := by rw [← hol]; exact Nat.le_trans ho.len h.le
    have h7 := h.le
    by_cases hfew : 0 < m
    rotate_left
    · have HR := Lib.hid (isPathL_few (N := (n : Int)) (X := ints Q) (l := ints o) (by rw [ints_len, hol]; exact hfew))
      rw [HR.out]
      obtain rfl : m = 0 := by omega
      clear hg
      go_enter Try.func102, Try.ntmps102
      go_wp2_with fail
      refine (l4Distinct_is (hX.up (by go_grown)) (hL.up (by go_grown)) hn hm H1.out).mono ?_
      rintro e w1 ⟨rfl, hb1⟩
      have hU1 : Up w w1 := Up.then_ (by go_grown) hb1
      go_wp2
      go_ret
      exact ⟨rfl, hU1⟩
    skip
    have Hat := Lib.hid fun k (hk : k < m) => ho.at_ (j := k) (by rw [hol]; exact hk)
    have HNo := Lib.hid fun k (hk : k < m) i hi e => joinedP_no2 (o := o) (J := jPath) h (i := i) (k := k) (by rw [hol]; exact hk) hi e
    have HYes := Lib.hid fun (hh : ∀ k, k < m → ∀ i, i < k → edge Q (nb o k) (nb o i) = jPath i k) => joinedP_yes2 (o := o) (J := jPath) h (by rw [hol]; exact hh)
    have HR := Lib.hid (show isPathL n (ints Q) (ints o) = joinedP Q o (jPath) by rw [isPathL_ok (by rw [ints_len, hol]; exact hfew), isJoined_ok hg])
    rw [HR.out]
    obtain ⟨aX, rfl, _, _⟩ := hX.addr h.pos
    clear hg HR hol
    go_enter Try.func102, Try.ntmps102
    go_wp2_with fail
    refine (l4Distinct_is (hX.up (by go_grown)) (hL.up (by go_grown)) hn hm H1.out).mono ?_
    rintro e w1 ⟨rfl, hb1⟩
    have hU1 : Up w w1 := Up.then_ (by go_grown) hb1
    replace hX := hX.up hU1
    replace hL := hL.up hU1
    have hbk1 := hbk.up hb1
    go_wp2_with fail
    skip
    go_loopw [5] (fun s wr => ∃ k : Nat, k ≤ m ∧ s = .int .i64 k ∧ Up w1 wr ∧ Hid (∀ z, z < k → ∀ i, i < z → edge Q (nb o z) (nb o i) = jPath i z)) (fun s _ => m - (intOf s).toNat)
    case atStart => exact ⟨0, Nat.zero_le _, rfl, Up.refl _, fun z hz => absurd hz (by omega)⟩
    case round =>
      obtain ⟨k, hk, rfl, hb, hall⟩ := hrel
      obtain ⟨wo, rfl⟩ : ∃ wo : World, wo = wr := ⟨_, rfl⟩
      by_cases hkn : k < m
      · go_wp2_with fail
        go_loopw [6] (fun s wr => ∃ i : Nat, i ≤ k ∧ s = .int .i64 i ∧ Up w1 wr ∧ Hid (∀ z, z < i → edge Q (nb o k) (nb o z) = jPath z k)) (fun s _ => k - (intOf s).toNat)
        case atStart => exact ⟨0, Nat.zero_le _, rfl, hb, fun z hz => absurd hz (by omega)⟩
        case round =>
          obtain ⟨i, hi, rfl, hb2, hall2⟩ := hrel
          obtain ⟨wi, rfl⟩ : ∃ wi : World, wi = wr := ⟨_, rfl⟩
          by_cases hik : i < k
          · have hil : i < m := by omega
            have hXi := hX.up hb2
            have hLi := hL.up hb2
            obtain ⟨ad, rfl, habs, _⟩ := hLi.addr (by omega)
            have hyi := (hbk1.up hb2).two
            have hli := (hbk1.up hb2).lt
            have hci := hLi.nbs hil
            have hck := hLi.nbs hkn
            have hvi := Hat.out i hil
            have hvk := Hat.out k hkn
            have hno := Lib.hid (HNo.out k hkn i hik)
            have HE := Lib.hid (show (nb Q (nb o k)).testBit (nb o i) = edge Q (nb o k) (nb o i) from rfl)
            have hA0 := Lib.hid (show edge Q (nb o k) (nb o i) = jPath i k → ∀ z, z < i + 1 → edge Q (nb o k) (nb o z) = jPath z k from fun e z hz => by
                rcases Nat.lt_succ_iff_lt_or_eq.1 hz with h' | rfl
                · exact hall2.out z h'
                · exact e)
            obtain ⟨e, he⟩ : ∃ e, e = edge Q (nb o k) (nb o i) := ⟨_, rfl⟩
            rw [← he] at HE hno hA0
            obtain ⟨x, hx⟩ : ∃ x, x = nb o i := ⟨_, rfl⟩
            rw [← hx] at hci hvi HE
            obtain ⟨y, hy⟩ : ∃ y, y = nb o k := ⟨_, rfl⟩
            rw [← hy] at hck hvk HE
            have hJ := Lib.hid (show jPath i k = (decide (k = i + 1)) from rfl)
            clear he hx hy hall2
            by_cases e1 : k = i + 1
            · have HJ := Lib.hid (show jPath i k = true by rw [hJ.out, decide_eq_true e1])
              have wk : IntKind.i64.wrap ((k : Int) - 1) = (i : Int) := by rw [IntKind.wrap_i64]; omega
              have wk2 : wrap64 ((k : Int) - 1) = (i : Int) := by rw [IntWalk.wrap64_in _ ⟨by omega, by omega⟩]; omega
              clear hJ e1
              cases e
              · have HF := Lib.hid (hno.out (by rw [HJ.out]; simp))
                clear hno hA0 HJ
                go_wp2
                have hV0 : Up wi wi.drew := (Up.refl _).drew
                refine wp_region_calm (S := (fun w' => Up wi w' ∧ (∀ b o, b < wi.heap.size → w'.cell? ⟨b, o, none⟩ = wi.cell? ⟨b, o, none⟩) ∧ w'.cell? (ad.add k) = some (.int .i64 (y : Nat)) ∧ w'.cell? (ad.add i) = some (.int .i64 (x : Nat)))) (by kernel_rfl) (by kernel_rfl) (by exact ⟨hV0, fun _ _ hb => hV0.cell hb, (hV0.cell (by first | assumption | (rw [block_of_add]; assumption))).trans (by assumption), (hV0.cell (by first | assumption | (rw [block_of_add]; assumption))).trans (by assumption)⟩) ?_
                repeat (first | (refine CalmSeq.cons undef (Calm.off (by rfl)) ?_; (try simp only [Act.put, List.setIfInBounds_toArray, List.set_cons_zero, List.set_cons_succ])) | (refine CalmSeq.cons ?_ (Calm.val (by rfl) ?_) ?_; rotate_left; (intro wC hSw; (try dsimp only at hSw); go_simp; done); (try simp only [Act.put, List.setIfInBounds_toArray, List.set_cons_zero, List.set_cons_succ])) | (refine CalmSeq.cons ?_ (Calm.val (by rfl) ?_) ?_; rotate_left; (intro wC hSw; (try dsimp only at hSw); go_simp; with_reducible rfl); (try simp only [Act.put, List.setIfInBounds_toArray, List.set_cons_zero, List.set_cons_succ])) | ((refine CalmSeq.cons ?_ (Calm.call (f := ?_) (args := ?_) (by rfl) ?_ (fun wC hSw => ?_)) ?_; rotate_left 3; (intro wC; go_simp; (refine ⟨?_, ?_⟩ <;> with_reducible rfl)); (go_at_call 69; (with_reducible refine (l2Edge_is (hXi.up hSw.1) h hvk hvi HE.out).mono ?_); rintro e wD ⟨rfl, hbD⟩; apply And.intro; (with_reducible rfl); (have hUD := Up.then_ hSw.1 hbD; exact ⟨hUD, fun _ _ hb => hUD.cell hb, (hUD.cell (by first | assumption | (rw [block_of_add]; assumption))).trans (by assumption), (hUD.cell (by first | assumption | (rw [block_of_add]; assumption))).trans (by assumption)⟩))); (try simp only [Act.put, List.setIfInBounds_toArray, List.set_cons_zero, List.set_cons_succ])))
                intro w3 hS3
                have hU3 : Up wi w3 := hS3.1
                clear hS3 hV0
                go_wp2
                go_ret
                rw [HF.out]
                exact ⟨rfl, Up.then_ hU1 (Up.then_ hb2 hU3)⟩
              · have HA := Lib.hid (hA0.out (by rw [HJ.out]))
                clear hno hA0 HJ
                go_wp2
                have hV0 : Up wi wi.drew := (Up.refl _).drew
                refine wp_region_calm (S := (fun w' => Up wi w' ∧ (∀ b o, b < wi.heap.size → w'.cell? ⟨b, o, none⟩ = wi.cell? ⟨b, o, none⟩) ∧ w'.cell? (ad.add k) = some (.int .i64 (y : Nat)) ∧ w'.cell? (ad.add i) = some (.int .i64 (x : Nat)))) (by kernel_rfl) (by kernel_rfl) (by exact ⟨hV0, fun _ _ hb => hV0.cell hb, (hV0.cell (by first | assumption | (rw [block_of_add]; assumption))).trans (by assumption), (hV0.cell (by first | assumption | (rw [block_of_add]; assumption))).trans (by assumption)⟩) ?_
                repeat (first | (refine CalmSeq.cons undef (Calm.off (by rfl)) ?_; (try simp only [Act.put, List.setIfInBounds_toArray, List.set_cons_zero, List.set_cons_succ])) | (refine CalmSeq.cons ?_ (Calm.val (by rfl) ?_) ?_; rotate_left; (intro wC hSw; (try dsimp only at hSw); go_simp; done); (try simp only [Act.put, List.setIfInBounds_toArray, List.set_cons_zero, List.set_cons_succ])) | (refine CalmSeq.cons ?_ (Calm.val (by rfl) ?_) ?_; rotate_left; (intro wC hSw; (try dsimp only at hSw); go_simp; with_reducible rfl); (try simp only [Act.put, List.setIfInBounds_toArray, List.set_cons_zero, List.set_cons_succ])) | ((refine CalmSeq.cons ?_ (Calm.call (f := ?_) (args := ?_) (by rfl) ?_ (fun wC hSw => ?_)) ?_; rotate_left 3; (intro wC; go_simp; (refine ⟨?_, ?_⟩ <;> with_reducible rfl)); (go_at_call 69; (with_reducible refine (l2Edge_is (hXi.up hSw.1) h hvk hvi HE.out).mono ?_); rintro e wD ⟨rfl, hbD⟩; apply And.intro; (with_reducible rfl); (have hUD := Up.then_ hSw.1 hbD; exact ⟨hUD, fun _ _ hb => hUD.cell hb, (hUD.cell (by first | assumption | (rw [block_of_add]; assumption))).trans (by assumption), (hUD.cell (by first | assumption | (rw [block_of_add]; assumption))).trans (by assumption)⟩))); (try simp only [Act.put, List.setIfInBounds_toArray, List.set_cons_zero, List.set_cons_succ])))
                intro w3 hS3
                have hU3 : Up wi w3 := hS3.1
                clear hS3 hV0
                go_wp2
                go_roundw
                case rel => exact ⟨i + 1, by omega, by go_num, Up.then_ hb2 hU3, HA.out⟩
                case measure => simp [intOf]; omega
            · have HJ := Lib.hid (show jPath i k = false by rw [hJ.out, decide_eq_false e1])
              obtain ⟨k1, hk1⟩ : ∃ k1, k1 = k - 1 := ⟨_, rfl⟩
              have wk : IntKind.i64.wrap ((k : Int) - 1) = (k1 : Int) := by rw [IntKind.wrap_i64]; omega
              have wk2 : wrap64 ((k : Int) - 1) = (k1 : Int) := by rw [IntWalk.wrap64_in _ ⟨by omega, by omega⟩]; omega
              have b1 : ((i : Int) == (k1 : Int)) = false := by rw [beq_eq_false_iff_ne]; omega
              clear hJ e1 hk1
              cases e
              · have HA := Lib.hid (hA0.out (by rw [HJ.out]))
                clear hno hA0 HJ
                go_wp2
                have hV0 : Up wi wi.drew := (Up.refl _).drew
                refine wp_region_calm (S := (fun w' => Up wi w' ∧ (∀ b o, b < wi.heap.size → w'.cell? ⟨b, o, none⟩ = wi.cell? ⟨b, o, none⟩) ∧ w'.cell? (ad.add k) = some (.int .i64 (y : Nat)) ∧ w'.cell? (ad.add i) = some (.int .i64 (x : Nat)))) (by kernel_rfl) (by kernel_rfl) (by exact ⟨hV0, fun _ _ hb => hV0.cell hb, (hV0.cell (by first | assumption | (rw [block_of_add]; assumption))).trans (by assumption), (hV0.cell (by first | assumption | (rw [block_of_add]; assumption))).trans (by assumption)⟩) ?_
                repeat (first | (refine CalmSeq.cons undef (Calm.off (by rfl)) ?_; (try simp only [Act.put, List.setIfInBounds_toArray, List.set_cons_zero, List.set_cons_succ])) | (refine CalmSeq.cons ?_ (Calm.val (by rfl) ?_) ?_; rotate_left; (intro wC hSw; (try dsimp only at hSw); go_simp; done); (try simp only [Act.put, List.setIfInBounds_toArray, List.set_cons_zero, List.set_cons_succ])) | (refine CalmSeq.cons ?_ (Calm.val (by rfl) ?_) ?_; rotate_left; (intro wC hSw; (try dsimp only at hSw); go_simp; with_reducible rfl); (try simp only [Act.put, List.setIfInBounds_toArray, List.set_cons_zero, List.set_cons_succ])) | ((refine CalmSeq.cons ?_ (Calm.call (f := ?_) (args := ?_) (by rfl) ?_ (fun wC hSw => ?_)) ?_; rotate_left 3; (intro wC; go_simp; (refine ⟨?_, ?_⟩ <;> with_reducible rfl)); (go_at_call 69; (with_reducible refine (l2Edge_is (hXi.up hSw.1) h hvk hvi HE.out).mono ?_); rintro e wD ⟨rfl, hbD⟩; apply And.intro; (with_reducible rfl); (have hUD := Up.then_ hSw.1 hbD; exact ⟨hUD, fun _ _ hb => hUD.cell hb, (hUD.cell (by first | assumption | (rw [block_of_add]; assumption))).trans (by assumption), (hUD.cell (by first | assumption | (rw [block_of_add]; assumption))).trans (by assumption)⟩))); (try simp only [Act.put, List.setIfInBounds_toArray, List.set_cons_zero, List.set_cons_succ])))
                intro w3 hS3
                have hU3 : Up wi w3 := hS3.1
                clear hS3 hV0
                go_wp2
                go_roundw
                case rel => exact ⟨i + 1, by omega, by go_num, Up.then_ hb2 hU3, HA.out⟩
                case measure => simp [intOf]; omega
              · have HF := Lib.hid (hno.out (by rw [HJ.out]; simp))
                clear hno hA0 HJ
                go_wp2
                have hV0 : Up wi wi.drew := (Up.refl _).drew
                refine wp_region_calm (S := (fun w' => Up wi w' ∧ (∀ b o, b < wi.heap.size → w'.cell? ⟨b, o, none⟩ = wi.cell? ⟨b, o, none⟩) ∧ w'.cell? (ad.add k) = some (.int .i64 (y : Nat)) ∧ w'.cell? (ad.add i) = some (.int .i64 (x : Nat)))) (by kernel_rfl) (by kernel_rfl) (by exact ⟨hV0, fun _ _ hb => hV0.cell hb, (hV0.cell (by first | assumption | (rw [block_of_add]; assumption))).trans (by assumption), (hV0.cell (by first | assumption | (rw [block_of_add]; assumption))).trans (by assumption)⟩) ?_
                repeat (first | (refine CalmSeq.cons undef (Calm.off (by rfl)) ?_; (try simp only [Act.put, List.setIfInBounds_toArray, List.set_cons_zero, List.set_cons_succ])) | (refine CalmSeq.cons ?_ (Calm.val (by rfl) ?_) ?_; rotate_left; (intro wC hSw; (try dsimp only at hSw); go_simp; done); (try simp only [Act.put, List.setIfInBounds_toArray, List.set_cons_zero, List.set_cons_succ])) | (refine CalmSeq.cons ?_ (Calm.val (by rfl) ?_) ?_; rotate_left; (intro wC hSw; (try dsimp only at hSw); go_simp; with_reducible rfl); (try simp only [Act.put, List.setIfInBounds_toArray, List.set_cons_zero, List.set_cons_succ])) | ((refine CalmSeq.cons ?_ (Calm.call (f := ?_) (args := ?_) (by rfl) ?_ (fun wC hSw => ?_)) ?_; rotate_left 3; (intro wC; go_simp; (refine ⟨?_, ?_⟩ <;> with_reducible rfl)); (go_at_call 69; (with_reducible refine (l2Edge_is (hXi.up hSw.1) h hvk hvi HE.out).mono ?_); rintro e wD ⟨rfl, hbD⟩; apply And.intro; (with_reducible rfl); (have hUD := Up.then_ hSw.1 hbD; exact ⟨hUD, fun _ _ hb => hUD.cell hb, (hUD.cell (by first | assumption | (rw [block_of_add]; assumption))).trans (by assumption), (hUD.cell (by first | assumption | (rw [block_of_add]; assumption))).trans (by assumption)⟩))); (try simp only [Act.put, List.setIfInBounds_toArray, List.set_cons_zero, List.set_cons_succ])))
                intro w3 hS3
                have hU3 : Up wi w3 := hS3.1
                clear hS3 hV0
                go_wp2
                go_ret
                rw [HF.out]
                exact ⟨rfl, Up.then_ hU1 (Up.then_ hb2 hU3)⟩
          · obtain rfl : i = k := by omega
            have HA := Lib.hid (show ∀ z, z < i + 1 → ∀ y, y < z → edge Q (nb o z) (nb o y) = jPath y z from fun z hz => by
              rcases Nat.lt_succ_iff_lt_or_eq.1 hz with h' | rfl
              · exact hall.out z h'
              · exact hall2.out)
            go_wp2
            go_roundw
            case rel => exact ⟨i + 1, by omega, by go_num, hb2, HA.out⟩
            case measure => simp [intOf]; omega
      · obtain rfl : k = m := by omega
        have HY := Lib.hid (HYes.out hall.out)
        go_wp2
        go_ret
        rw [HY.out]
        exact ⟨rfl, Up.then_ hU1 hb⟩
set_option maxRecDepth 100000 in
set_option maxHeartbeats 4000000 in
theorem specIsHole_any (N : Int) (A B : Option Addr) (n c m d : Nat) (X l : List Int) (w : World) (hX : RI w A n X) (hL : RI w B m l) (hn : n ≤ 9223372036854775807) (hm : m ≤ 9223372036854775807) :
    Calls Try.prog 101 #[.agg #[.int .i64 N, .slice A n c], .slice B m d] w fun e w' => e = .returned (.bool (isHoleL N X l)) ∧ Below w.heap.size w w' := by
  have hbk := Blk.new w 26 #[.int .i64 N, .slice A n c]
  rcases isVerts_cases N X l with hg | ⟨hg, k, Q, o, rfl, rfl, rfl, h, ho⟩
  · have H1 := Lib.hid hg
    have HR := Lib.hid (isHoleL_no hg)
    rw [HR.out]
    clear hg
    go_enter Try.func101, Try.ntmps101
    go_wp2_with fail
    refine (l4Distinct_is (hX.up (by go_grown)) (hL.up (by go_grown)) hn hm H1.out).mono ?_
    rintro e w1 ⟨rfl, hb1⟩
    have hU1 : Up w w1 := Up.then_ (by go_grown) hb1
    go_wp2
    go_ret
    exact ⟨rfl, hU1⟩
  · obtain rfl : n = k := by rw [← hX.1, ints_len, h.len]
    have hol : o.length = m := by rw [← hL.1, ints_len]
    have H1 := Lib.hid hg
    have hl7 : m ≤ 7 := by rw [← hol]; exact Nat.le_trans ho.len h.le
    have h7 := h.le
    by_cases hfew : 4 ≤ m
    rotate_left
    · have HR := Lib.hid (isHoleL_few (N := (n : Int)) (X := ints Q) (l := ints o) (by rw [ints_len, hol]; exact hfew))
      rw [HR.out]
      have d4 : decide ((m : Int) < 4) = true := decide_eq_true (by omega)
      clear hg
      go_enter Try.func101, Try.ntmps101
      go_wp2_with fail
      refine (l4Distinct_is (hX.up (by go_grown)) (hL.up (by go_grown)) hn hm H1.out).mono ?_
      rintro e w1 ⟨rfl, hb1⟩
      have hU1 : Up w w1 := Up.then_ (by go_grown) hb1
      go_wp2
      go_ret
      exact ⟨rfl, hU1⟩
    skip
    have Hat := Lib.hid fun k (hk : k < m) => ho.at_ (j := k) (by rw [hol]; exact hk)
    have HNo := Lib.hid fun k (hk : k < m) i hi e => joinedP_no2 (o := o) (J := (jHole m)) h (i := i) (k := k) (by rw [hol]; exact hk) hi e
    have HYes := Lib.hid fun (hh : ∀ k, k < m → ∀ i, i < k → edge Q (nb o k) (nb o i) = (jHole m) i k) => joinedP_yes2 (o := o) (J := (jHole m)) h (by rw [hol]; exact hh)
    have d4 : decide ((m : Int) < 4) = false := decide_eq_false (by omega)
    have HR := Lib.hid (show isHoleL n (ints Q) (ints o) = joinedP Q o ((jHole m)) by rw [isHoleL_ok (by rw [ints_len, hol]; exact hfew), isJoined_ok hg, ints_len, hol])
    rw [HR.out]
    obtain ⟨aX, rfl, _, _⟩ := hX.addr h.pos
    clear hg HR hol
    go_enter Try.func101, Try.ntmps101
    go_wp2_with fail
    refine (l4Distinct_is (hX.up (by go_grown)) (hL.up (by go_grown)) hn hm H1.out).mono ?_
    rintro e w1 ⟨rfl, hb1⟩
    have hU1 : Up w w1 := Up.then_ (by go_grown) hb1
    replace hX := hX.up hU1
    replace hL := hL.up hU1
    have hbk1 := hbk.up hb1
    go_wp2_with fail
    skip
    go_loopw [5] (fun s wr => ∃ k : Nat, k ≤ m ∧ s = .int .i64 k ∧ Up w1 wr ∧ Hid (∀ z, z < k → ∀ i, i < z → edge Q (nb o z) (nb o i) = (jHole m) i z)) (fun s _ => m - (intOf s).toNat)
    case atStart => exact ⟨0, Nat.zero_le _, rfl, Up.refl _, fun z hz => absurd hz (by omega)⟩
    case round =>
      obtain ⟨k, hk, rfl, hb, hall⟩ := hrel
      obtain ⟨wo, rfl⟩ : ∃ wo : World, wo = wr := ⟨_, rfl⟩
      by_cases hkn : k < m
      · go_wp2_with fail
        go_loopw [6] (fun s wr => ∃ i : Nat, i ≤ k ∧ s = .int .i64 i ∧ Up w1 wr ∧ Hid (∀ z, z < i → edge Q (nb o k) (nb o z) = (jHole m) z k)) (fun s _ => k - (intOf s).toNat)
        case atStart => exact ⟨0, Nat.zero_le _, rfl, hb, fun z hz => absurd hz (by omega)⟩
        case round =>
          obtain ⟨i, hi, rfl, hb2, hall2⟩ := hrel
          obtain ⟨wi, rfl⟩ : ∃ wi : World, wi = wr := ⟨_, rfl⟩
          by_cases hik : i < k
          · have hil : i < m := by omega
            have hXi := hX.up hb2
            have hLi := hL.up hb2
            obtain ⟨ad, rfl, habs, _⟩ := hLi.addr (by omega)
            have hyi := (hbk1.up hb2).two
            have hli := (hbk1.up hb2).lt
            have hci := hLi.nbs hil
            have hck := hLi.nbs hkn
            have hvi := Hat.out i hil
            have hvk := Hat.out k hkn
            have hno := Lib.hid (HNo.out k hkn i hik)
            have HE := Lib.hid (show (nb Q (nb o k)).testBit (nb o i) = edge Q (nb o k) (nb o i) from rfl)
            have hA0 := Lib.hid (show edge Q (nb o k) (nb o i) = (jHole m) i k → ∀ z, z < i + 1 → edge Q (nb o k) (nb o z) = (jHole m) z k from fun e z hz => by
                rcases Nat.lt_succ_iff_lt_or_eq.1 hz with h' | rfl
                · exact hall2.out z h'
                · exact e)
            obtain ⟨e, he⟩ : ∃ e, e = edge Q (nb o k) (nb o i) := ⟨_, rfl⟩
            rw [← he] at HE hno hA0
            obtain ⟨x, hx⟩ : ∃ x, x = nb o i := ⟨_, rfl⟩
            rw [← hx] at hci hvi HE
            obtain ⟨y, hy⟩ : ∃ y, y = nb o k := ⟨_, rfl⟩
            rw [← hy] at hck hvk HE
            have hJ := Lib.hid (show (jHole m) i k = (decide (k = i + 1) || (decide (i = 0) && decide (k + 1 = m))) from rfl)
            clear he hx hy hall2
            by_cases e1 : k = i + 1
            · have HJ := Lib.hid (show jHole m i k = true by rw [hJ.out, decide_eq_true e1]; rfl)
              have wk : IntKind.i64.wrap ((k : Int) - 1) = (i : Int) := by rw [IntKind.wrap_i64]; omega
              have wk2 : wrap64 ((k : Int) - 1) = (i : Int) := by rw [IntWalk.wrap64_in _ ⟨by omega, by omega⟩]; omega
              clear hJ e1
              cases e
              · have HF := Lib.hid (hno.out (by rw [HJ.out]; simp))
                clear hno hA0 HJ
                go_wp2
                have hV0 : Up wi wi.drew := (Up.refl _).drew
                refine wp_region_calm (S := (fun w' => Up wi w' ∧ (∀ b o, b < wi.heap.size → w'.cell? ⟨b, o, none⟩ = wi.cell? ⟨b, o, none⟩) ∧ w'.cell? (ad.add k) = some (.int .i64 (y : Nat)) ∧ w'.cell? (ad.add i) = some (.int .i64 (x : Nat)))) (by kernel_rfl) (by kernel_rfl) (by exact ⟨hV0, fun _ _ hb => hV0.cell hb, (hV0.cell (by first | assumption | (rw [block_of_add]; assumption))).trans (by assumption), (hV0.cell (by first | assumption | (rw [block_of_add]; assumption))).trans (by assumption)⟩) ?_
                repeat (first | (refine CalmSeq.cons undef (Calm.off (by rfl)) ?_; (try simp only [Act.put, List.setIfInBounds_toArray, List.set_cons_zero, List.set_cons_succ])) | (refine CalmSeq.cons ?_ (Calm.val (by rfl) ?_) ?_; rotate_left; (intro wC hSw; (try dsimp only at hSw); go_simp; done); (try simp only [Act.put, List.setIfInBounds_toArray, List.set_cons_zero, List.set_cons_succ])) | (refine CalmSeq.cons ?_ (Calm.val (by rfl) ?_) ?_; rotate_left; (intro wC hSw; (try dsimp only at hSw); go_simp; with_reducible rfl); (try simp only [Act.put, List.setIfInBounds_toArray, List.set_cons_zero, List.set_cons_succ])) | ((refine CalmSeq.cons ?_ (Calm.call (f := ?_) (args := ?_) (by rfl) ?_ (fun wC hSw => ?_)) ?_; rotate_left 3; (intro wC; go_simp; (refine ⟨?_, ?_⟩ <;> with_reducible rfl)); (go_at_call 69; (with_reducible refine (l2Edge_is (hXi.up hSw.1) h hvk hvi HE.out).mono ?_); rintro e wD ⟨rfl, hbD⟩; apply And.intro; (with_reducible rfl); (have hUD := Up.then_ hSw.1 hbD; exact ⟨hUD, fun _ _ hb => hUD.cell hb, (hUD.cell (by first | assumption | (rw [block_of_add]; assumption))).trans (by assumption), (hUD.cell (by first | assumption | (rw [block_of_add]; assumption))).trans (by assumption)⟩))); (try simp only [Act.put, List.setIfInBounds_toArray, List.set_cons_zero, List.set_cons_succ])))
                intro w3 hS3
                have hU3 : Up wi w3 := hS3.1
                clear hS3 hV0
                go_wp2
                go_ret
                rw [HF.out]
                exact ⟨rfl, Up.then_ hU1 (Up.then_ hb2 hU3)⟩
              · have HA := Lib.hid (hA0.out (by rw [HJ.out]))
                clear hno hA0 HJ
                go_wp2
                have hV0 : Up wi wi.drew := (Up.refl _).drew
                refine wp_region_calm (S := (fun w' => Up wi w' ∧ (∀ b o, b < wi.heap.size → w'.cell? ⟨b, o, none⟩ = wi.cell? ⟨b, o, none⟩) ∧ w'.cell? (ad.add k) = some (.int .i64 (y : Nat)) ∧ w'.cell? (ad.add i) = some (.int .i64 (x : Nat)))) (by kernel_rfl) (by kernel_rfl) (by exact ⟨hV0, fun _ _ hb => hV0.cell hb, (hV0.cell (by first | assumption | (rw [block_of_add]; assumption))).trans (by assumption), (hV0.cell (by first | assumption | (rw [block_of_add]; assumption))).trans (by assumption)⟩) ?_
                repeat (first | (refine CalmSeq.cons undef (Calm.off (by rfl)) ?_; (try simp only [Act.put, List.setIfInBounds_toArray, List.set_cons_zero, List.set_cons_succ])) | (refine CalmSeq.cons ?_ (Calm.val (by rfl) ?_) ?_; rotate_left; (intro wC hSw; (try dsimp only at hSw); go_simp; done); (try simp only [Act.put, List.setIfInBounds_toArray, List.set_cons_zero, List.set_cons_succ])) | (refine CalmSeq.cons ?_ (Calm.val (by rfl) ?_) ?_; rotate_left; (intro wC hSw; (try dsimp only at hSw); go_simp; with_reducible rfl); (try simp only [Act.put, List.setIfInBounds_toArray, List.set_cons_zero, List.set_cons_succ])) | ((refine CalmSeq.cons ?_ (Calm.call (f := ?_) (args := ?_) (by rfl) ?_ (fun wC hSw => ?_)) ?_; rotate_left 3; (intro wC; go_simp; (refine ⟨?_, ?_⟩ <;> with_reducible rfl)); (go_at_call 69; (with_reducible refine (l2Edge_is (hXi.up hSw.1) h hvk hvi HE.out).mono ?_); rintro e wD ⟨rfl, hbD⟩; apply And.intro; (with_reducible rfl); (have hUD := Up.then_ hSw.1 hbD; exact ⟨hUD, fun _ _ hb => hUD.cell hb, (hUD.cell (by first | assumption | (rw [block_of_add]; assumption))).trans (by assumption), (hUD.cell (by first | assumption | (rw [block_of_add]; assumption))).trans (by assumption)⟩))); (try simp only [Act.put, List.setIfInBounds_toArray, List.set_cons_zero, List.set_cons_succ])))
                intro w3 hS3
                have hU3 : Up wi w3 := hS3.1
                clear hS3 hV0
                go_wp2
                go_roundw
                case rel => exact ⟨i + 1, by omega, by go_num, Up.then_ hb2 hU3, HA.out⟩
                case measure => simp [intOf]; omega
            obtain ⟨k1, hk1⟩ : ∃ k1, k1 = k - 1 := ⟨_, rfl⟩
            have wk : IntKind.i64.wrap ((k : Int) - 1) = (k1 : Int) := by rw [IntKind.wrap_i64]; omega
            have wk2 : wrap64 ((k : Int) - 1) = (k1 : Int) := by rw [IntWalk.wrap64_in _ ⟨by omega, by omega⟩]; omega
            have b1 : ((i : Int) == (k1 : Int)) = false := by rw [beq_eq_false_iff_ne]; omega
            by_cases e2 : i = 0
            rotate_left
            · have HJ := Lib.hid (show jHole m i k = false by rw [hJ.out, decide_eq_false e1, decide_eq_false e2]; rfl)
              have b2 : ((i : Int) == 0) = false := by rw [beq_eq_false_iff_ne]; omega
              clear hJ e1 e2 hk1
              cases e
              · have HA := Lib.hid (hA0.out (by rw [HJ.out]))
                clear hno hA0 HJ
                go_wp2
                have hV0 : Up wi wi.drew := (Up.refl _).drew
                refine wp_region_calm (S := (fun w' => Up wi w' ∧ (∀ b o, b < wi.heap.size → w'.cell? ⟨b, o, none⟩ = wi.cell? ⟨b, o, none⟩) ∧ w'.cell? (ad.add k) = some (.int .i64 (y : Nat)) ∧ w'.cell? (ad.add i) = some (.int .i64 (x : Nat)))) (by kernel_rfl) (by kernel_rfl) (by exact ⟨hV0, fun _ _ hb => hV0.cell hb, (hV0.cell (by first | assumption | (rw [block_of_add]; assumption))).trans (by assumption), (hV0.cell (by first | assumption | (rw [block_of_add]; assumption))).trans (by assumption)⟩) ?_
                repeat (first | (refine CalmSeq.cons undef (Calm.off (by rfl)) ?_; (try simp only [Act.put, List.setIfInBounds_toArray, List.set_cons_zero, List.set_cons_succ])) | (refine CalmSeq.cons ?_ (Calm.val (by rfl) ?_) ?_; rotate_left; (intro wC hSw; (try dsimp only at hSw); go_simp; done); (try simp only [Act.put, List.setIfInBounds_toArray, List.set_cons_zero, List.set_cons_succ])) | (refine CalmSeq.cons ?_ (Calm.val (by rfl) ?_) ?_; rotate_left; (intro wC hSw; (try dsimp only at hSw); go_simp; with_reducible rfl); (try simp only [Act.put, List.setIfInBounds_toArray, List.set_cons_zero, List.set_cons_succ])) | ((refine CalmSeq.cons ?_ (Calm.call (f := ?_) (args := ?_) (by rfl) ?_ (fun wC hSw => ?_)) ?_; rotate_left 3; (intro wC; go_simp; (refine ⟨?_, ?_⟩ <;> with_reducible rfl)); (go_at_call 69; (with_reducible refine (l2Edge_is (hXi.up hSw.1) h hvk hvi HE.out).mono ?_); rintro e wD ⟨rfl, hbD⟩; apply And.intro; (with_reducible rfl); (have hUD := Up.then_ hSw.1 hbD; exact ⟨hUD, fun _ _ hb => hUD.cell hb, (hUD.cell (by first | assumption | (rw [block_of_add]; assumption))).trans (by assumption), (hUD.cell (by first | assumption | (rw [block_of_add]; assumption))).trans (by assumption)⟩))); (try simp only [Act.put, List.setIfInBounds_toArray, List.set_cons_zero, List.set_cons_succ])))
                intro w3 hS3
                have hU3 : Up wi w3 := hS3.1
                clear hS3 hV0
                go_wp2
                go_roundw
                case rel => exact ⟨i + 1, by omega, by go_num, Up.then_ hb2 hU3, HA.out⟩
                case measure => simp [intOf]; omega
              · have HF := Lib.hid (hno.out (by rw [HJ.out]; simp))
                clear hno hA0 HJ
                go_wp2
                have hV0 : Up wi wi.drew := (Up.refl _).drew
                refine wp_region_calm (S := (fun w' => Up wi w' ∧ (∀ b o, b < wi.heap.size → w'.cell? ⟨b, o, none⟩ = wi.cell? ⟨b, o, none⟩) ∧ w'.cell? (ad.add k) = some (.int .i64 (y : Nat)) ∧ w'.cell? (ad.add i) = some (.int .i64 (x : Nat)))) (by kernel_rfl) (by kernel_rfl) (by exact ⟨hV0, fun _ _ hb => hV0.cell hb, (hV0.cell (by first | assumption | (rw [block_of_add]; assumption))).trans (by assumption), (hV0.cell (by first | assumption | (rw [block_of_add]; assumption))).trans (by assumption)⟩) ?_
                repeat (first | (refine CalmSeq.cons undef (Calm.off (by rfl)) ?_; (try simp only [Act.put, List.setIfInBounds_toArray, List.set_cons_zero, List.set_cons_succ])) | (refine CalmSeq.cons ?_ (Calm.val (by rfl) ?_) ?_; rotate_left; (intro wC hSw; (try dsimp only at hSw); go_simp; done); (try simp only [Act.put, List.setIfInBounds_toArray, List.set_cons_zero, List.set_cons_succ])) | (refine CalmSeq.cons ?_ (Calm.val (by rfl) ?_) ?_; rotate_left; (intro wC hSw; (try dsimp only at hSw); go_simp; with_reducible rfl); (try simp only [Act.put, List.setIfInBounds_toArray, List.set_cons_zero, List.set_cons_succ])) | ((refine CalmSeq.cons ?_ (Calm.call (f := ?_) (args := ?_) (by rfl) ?_ (fun wC hSw => ?_)) ?_; rotate_left 3; (intro wC; go_simp; (refine ⟨?_, ?_⟩ <;> with_reducible rfl)); (go_at_call 69; (with_reducible refine (l2Edge_is (hXi.up hSw.1) h hvk hvi HE.out).mono ?_); rintro e wD ⟨rfl, hbD⟩; apply And.intro; (with_reducible rfl); (have hUD := Up.then_ hSw.1 hbD; exact ⟨hUD, fun _ _ hb => hUD.cell hb, (hUD.cell (by first | assumption | (rw [block_of_add]; assumption))).trans (by assumption), (hUD.cell (by first | assumption | (rw [block_of_add]; assumption))).trans (by assumption)⟩))); (try simp only [Act.put, List.setIfInBounds_toArray, List.set_cons_zero, List.set_cons_succ])))
                intro w3 hS3
                have hU3 : Up wi w3 := hS3.1
                clear hS3 hV0
                go_wp2
                go_ret
                rw [HF.out]
                exact ⟨rfl, Up.then_ hU1 (Up.then_ hb2 hU3)⟩
            subst e2
            have hci0 : wi.cell? ad = some (.int .i64 (x : Nat)) := by have := hci; rwa [add_zero_] at this
            have b10 : ((0 : Int) == (k1 : Int)) = false := by rw [beq_eq_false_iff_ne]; omega
            by_cases e3 : k + 1 = m
            · have HJ := Lib.hid (show jHole m 0 k = true by rw [hJ.out, decide_eq_false e1, decide_eq_true e3]; rfl)
              have wm : IntKind.i64.wrap ((m : Int) - 1) = (k : Int) := by rw [IntKind.wrap_i64]; omega
              have wm2 : wrap64 ((m : Int) - 1) = (k : Int) := by rw [IntWalk.wrap64_in _ ⟨by omega, by omega⟩]; omega
              clear hJ e1 e3 hk1 b1
              cases e
              · have HF := Lib.hid (hno.out (by rw [HJ.out]; simp))
                clear hno hA0 HJ
                go_wp2
                have hV0 : Up wi wi.drew := (Up.refl _).drew
                refine wp_region_calm (S := (fun w' => Up wi w' ∧ (∀ b o, b < wi.heap.size → w'.cell? ⟨b, o, none⟩ = wi.cell? ⟨b, o, none⟩) ∧ w'.cell? (ad.add k) = some (.int .i64 (y : Nat)) ∧ w'.cell? (ad.add 0) = some (.int .i64 (x : Nat)) ∧ w'.cell? (ad) = some (.int .i64 (x : Nat)))) (by kernel_rfl) (by kernel_rfl) (by exact ⟨hV0, fun _ _ hb => hV0.cell hb, (hV0.cell (by first | assumption | (rw [block_of_add]; assumption))).trans (by assumption), (hV0.cell (by first | assumption | (rw [block_of_add]; assumption))).trans (by assumption), (hV0.cell (by first | assumption | (rw [block_of_add]; assumption))).trans (by assumption)⟩) ?_
                repeat (first | (refine CalmSeq.cons undef (Calm.off (by rfl)) ?_; (try simp only [Act.put, List.setIfInBounds_toArray, List.set_cons_zero, List.set_cons_succ])) | (refine CalmSeq.cons ?_ (Calm.val (by rfl) ?_) ?_; rotate_left; (intro wC hSw; (try dsimp only at hSw); go_simp; done); (try simp only [Act.put, List.setIfInBounds_toArray, List.set_cons_zero, List.set_cons_succ])) | (refine CalmSeq.cons ?_ (Calm.val (by rfl) ?_) ?_; rotate_left; (intro wC hSw; (try dsimp only at hSw); go_simp; with_reducible rfl); (try simp only [Act.put, List.setIfInBounds_toArray, List.set_cons_zero, List.set_cons_succ])) | ((refine CalmSeq.cons ?_ (Calm.call (f := ?_) (args := ?_) (by rfl) ?_ (fun wC hSw => ?_)) ?_; rotate_left 3; (intro wC; go_simp; (refine ⟨?_, ?_⟩ <;> with_reducible rfl)); (go_at_call 69; (with_reducible refine (l2Edge_is (hXi.up hSw.1) h hvk hvi HE.out).mono ?_); rintro e wD ⟨rfl, hbD⟩; apply And.intro; (with_reducible rfl); (have hUD := Up.then_ hSw.1 hbD; exact ⟨hUD, fun _ _ hb => hUD.cell hb, (hUD.cell (by first | assumption | (rw [block_of_add]; assumption))).trans (by assumption), (hUD.cell (by first | assumption | (rw [block_of_add]; assumption))).trans (by assumption), (hUD.cell (by first | assumption | (rw [block_of_add]; assumption))).trans (by assumption)⟩))); (try simp only [Act.put, List.setIfInBounds_toArray, List.set_cons_zero, List.set_cons_succ])))
                intro w3 hS3
                have hU3 : Up wi w3 := hS3.1
                clear hS3 hV0
                go_wp2
                go_ret
                rw [HF.out]
                exact ⟨rfl, Up.then_ hU1 (Up.then_ hb2 hU3)⟩
              · have HA := Lib.hid (hA0.out (by rw [HJ.out]))
                clear hno hA0 HJ
                go_wp2
                have hV0 : Up wi wi.drew := (Up.refl _).drew
                refine wp_region_calm (S := (fun w' => Up wi w' ∧ (∀ b o, b < wi.heap.size → w'.cell? ⟨b, o, none⟩ = wi.cell? ⟨b, o, none⟩) ∧ w'.cell? (ad.add k) = some (.int .i64 (y : Nat)) ∧ w'.cell? (ad.add 0) = some (.int .i64 (x : Nat)) ∧ w'.cell? (ad) = some (.int .i64 (x : Nat)))) (by kernel_rfl) (by kernel_rfl) (by exact ⟨hV0, fun _ _ hb => hV0.cell hb, (hV0.cell (by first | assumption | (rw [block_of_add]; assumption))).trans (by assumption), (hV0.cell (by first | assumption | (rw [block_of_add]; assumption))).trans (by assumption), (hV0.cell (by first | assumption | (rw [block_of_add]; assumption))).trans (by assumption)⟩) ?_
                repeat (first | (refine CalmSeq.cons undef (Calm.off (by rfl)) ?_; (try simp only [Act.put, List.setIfInBounds_toArray, List.set_cons_zero, List.set_cons_succ])) | (refine CalmSeq.cons ?_ (Calm.val (by rfl) ?_) ?_; rotate_left; (intro wC hSw; (try dsimp only at hSw); go_simp; done); (try simp only [Act.put, List.setIfInBounds_toArray, List.set_cons_zero, List.set_cons_succ])) | (refine CalmSeq.cons ?_ (Calm.val (by rfl) ?_) ?_; rotate_left; (intro wC hSw; (try dsimp only at hSw); go_simp; with_reducible rfl); (try simp only [Act.put, List.setIfInBounds_toArray, List.set_cons_zero, List.set_cons_succ])) | ((refine CalmSeq.cons ?_ (Calm.call (f := ?_) (args := ?_) (by rfl) ?_ (fun wC hSw => ?_)) ?_; rotate_left 3; (intro wC; go_simp; (refine ⟨?_, ?_⟩ <;> with_reducible rfl)); (go_at_call 69; (with_reducible refine (l2Edge_is (hXi.up hSw.1) h hvk hvi HE.out).mono ?_); rintro e wD ⟨rfl, hbD⟩; apply And.intro; (with_reducible rfl); (have hUD := Up.then_ hSw.1 hbD; exact ⟨hUD, fun _ _ hb => hUD.cell hb, (hUD.cell (by first | assumption | (rw [block_of_add]; assumption))).trans (by assumption), (hUD.cell (by first | assumption | (rw [block_of_add]; assumption))).trans (by assumption), (hUD.cell (by first | assumption | (rw [block_of_add]; assumption))).trans (by assumption)⟩))); (try simp only [Act.put, List.setIfInBounds_toArray, List.set_cons_zero, List.set_cons_succ])))
                intro w3 hS3
                have hU3 : Up wi w3 := hS3.1
                clear hS3 hV0
                go_wp2
                go_roundw
                case rel => exact ⟨0 + 1, by omega, by go_num, Up.then_ hb2 hU3, HA.out⟩
                case measure => simp [intOf]; omega
            · have HJ := Lib.hid (show jHole m 0 k = false by rw [hJ.out, decide_eq_false e1, decide_eq_false e3]; rfl)
              obtain ⟨m1, hm1⟩ : ∃ m1, m1 = m - 1 := ⟨_, rfl⟩
              have wm : IntKind.i64.wrap ((m : Int) - 1) = (m1 : Int) := by rw [IntKind.wrap_i64]; omega
              have wm2 : wrap64 ((m : Int) - 1) = (m1 : Int) := by rw [IntWalk.wrap64_in _ ⟨by omega, by omega⟩]; omega
              have b3 : ((k : Int) == (m1 : Int)) = false := by rw [beq_eq_false_iff_ne]; omega
              clear hJ e1 e3 hk1 b1 hm1
              cases e
              · have HA := Lib.hid (hA0.out (by rw [HJ.out]))
                clear hno hA0 HJ
                go_wp2
                have hV0 : Up wi wi.drew := (Up.refl _).drew
                refine wp_region_calm (S := (fun w' => Up wi w' ∧ (∀ b o, b < wi.heap.size → w'.cell? ⟨b, o, none⟩ = wi.cell? ⟨b, o, none⟩) ∧ w'.cell? (ad.add k) = some (.int .i64 (y : Nat)) ∧ w'.cell? (ad.add 0) = some (.int .i64 (x : Nat)) ∧ w'.cell? (ad) = some (.int .i64 (x : Nat)))) (by kernel_rfl) (by kernel_rfl) (by exact ⟨hV0, fun _ _ hb => hV0.cell hb, (hV0.cell (by first | assumption | (rw [block_of_add]; assumption))).trans (by assumption), (hV0.cell (by first | assumption | (rw [block_of_add]; assumption))).trans (by assumption), (hV0.cell (by first | assumption | (rw [block_of_add]; assumption))).trans (by assumption)⟩) ?_
                repeat (first | (refine CalmSeq.cons undef (Calm.off (by rfl)) ?_; (try simp only [Act.put, List.setIfInBounds_toArray, List.set_cons_zero, List.set_cons_succ])) | (refine CalmSeq.cons ?_ (Calm.val (by rfl) ?_) ?_; rotate_left; (intro wC hSw; (try dsimp only at hSw); go_simp; done); (try simp only [Act.put, List.setIfInBounds_toArray, List.set_cons_zero, List.set_cons_succ])) | (refine CalmSeq.cons ?_ (Calm.val (by rfl) ?_) ?_; rotate_left; (intro wC hSw; (try dsimp only at hSw); go_simp; with_reducible rfl); (try simp only [Act.put, List.setIfInBounds_toArray, List.set_cons_zero, List.set_cons_succ])) | ((refine CalmSeq.cons ?_ (Calm.call (f := ?_) (args := ?_) (by rfl) ?_ (fun wC hSw => ?_)) ?_; rotate_left 3; (intro wC; go_simp; (refine ⟨?_, ?_⟩ <;> with_reducible rfl)); (go_at_call 69; (with_reducible refine (l2Edge_is (hXi.up hSw.1) h hvk hvi HE.out).mono ?_); rintro e wD ⟨rfl, hbD⟩; apply And.intro; (with_reducible rfl); (have hUD := Up.then_ hSw.1 hbD; exact ⟨hUD, fun _ _ hb => hUD.cell hb, (hUD.cell (by first | assumption | (rw [block_of_add]; assumption))).trans (by assumption), (hUD.cell (by first | assumption | (rw [block_of_add]; assumption))).trans (by assumption), (hUD.cell (by first | assumption | (rw [block_of_add]; assumption))).trans (by assumption)⟩))); (try simp only [Act.put, List.setIfInBounds_toArray, List.set_cons_zero, List.set_cons_succ])))
                intro w3 hS3
                have hU3 : Up wi w3 := hS3.1
                clear hS3 hV0
                go_wp2
                go_roundw
                case rel => exact ⟨0 + 1, by omega, by go_num, Up.then_ hb2 hU3, HA.out⟩
                case measure => simp [intOf]; omega
              · have HF := Lib.hid (hno.out (by rw [HJ.out]; simp))
                clear hno hA0 HJ
                go_wp2
                have hV0 : Up wi wi.drew := (Up.refl _).drew
                refine wp_region_calm (S := (fun w' => Up wi w' ∧ (∀ b o, b < wi.heap.size → w'.cell? ⟨b, o, none⟩ = wi.cell? ⟨b, o, none⟩) ∧ w'.cell? (ad.add k) = some (.int .i64 (y : Nat)) ∧ w'.cell? (ad.add 0) = some (.int .i64 (x : Nat)) ∧ w'.cell? (ad) = some (.int .i64 (x : Nat)))) (by kernel_rfl) (by kernel_rfl) (by exact ⟨hV0, fun _ _ hb => hV0.cell hb, (hV0.cell (by first | assumption | (rw [block_of_add]; assumption))).trans (by assumption), (hV0.cell (by first | assumption | (rw [block_of_add]; assumption))).trans (by assumption), (hV0.cell (by first | assumption | (rw [block_of_add]; assumption))).trans (by assumption)⟩) ?_
                repeat (first | (refine CalmSeq.cons undef (Calm.off (by rfl)) ?_; (try simp only [Act.put, List.setIfInBounds_toArray, List.set_cons_zero, List.set_cons_succ])) | (refine CalmSeq.cons ?_ (Calm.val (by rfl) ?_) ?_; rotate_left; (intro wC hSw; (try dsimp only at hSw); go_simp; done); (try simp only [Act.put, List.setIfInBounds_toArray, List.set_cons_zero, List.set_cons_succ])) | (refine CalmSeq.cons ?_ (Calm.val (by rfl) ?_) ?_; rotate_left; (intro wC hSw; (try dsimp only at hSw); go_simp; with_reducible rfl); (try simp only [Act.put, List.setIfInBounds_toArray, List.set_cons_zero, List.set_cons_succ])) | ((refine CalmSeq.cons ?_ (Calm.call (f := ?_) (args := ?_) (by rfl) ?_ (fun wC hSw => ?_)) ?_; rotate_left 3; (intro wC; go_simp; (refine ⟨?_, ?_⟩ <;> with_reducible rfl)); (go_at_call 69; (with_reducible refine (l2Edge_is (hXi.up hSw.1) h hvk hvi HE.out).mono ?_); rintro e wD ⟨rfl, hbD⟩; apply And.intro; (with_reducible rfl); (have hUD := Up.then_ hSw.1 hbD; exact ⟨hUD, fun _ _ hb => hUD.cell hb, (hUD.cell (by first | assumption | (rw [block_of_add]; assumption))).trans (by assumption), (hUD.cell (by first | assumption | (rw [block_of_add]; assumption))).trans (by assumption), (hUD.cell (by first | assumption | (rw [block_of_add]; assumption))).trans (by assumption)⟩))); (try simp only [Act.put, List.setIfInBounds_toArray, List.set_cons_zero, List.set_cons_succ])))
                intro w3 hS3
                have hU3 : Up wi w3 := hS3.1
                clear hS3 hV0
                go_wp2
                go_ret
                rw [HF.out]
                exact ⟨rfl, Up.then_ hU1 (Up.then_ hb2 hU3)⟩
          · obtain rfl : i = k := by omega
            have HA := Lib.hid (show ∀ z, z < i + 1 → ∀ y, y < z → edge Q (nb o z) (nb o y) = (jHole m) y z from fun z hz => by
              rcases Nat.lt_succ_iff_lt_or_eq.1 hz with h' | rfl
              · exact hall.out z h'
              · exact hall2.out)
            go_wp2
            go_roundw
            case rel => exact ⟨i + 1, by omega, by go_num, hb2, HA.out⟩
            case measure => simp [intOf]; omega
      · obtain rfl : k = m := by omega
        have HY := Lib.hid (HYes.out hall.out)
        go_wp2
        go_ret
        rw [HY.out]
        exact ⟨rfl, Up.then_ hU1 hb⟩
end Go.Proofs.Ythncdjcmlpiebaa
