/- Walks of chapter 4: induced paths, holes, claws, the program's. -/
import Derived.Test.YtlcmfangecbdgaaW4
import Derived.Test.YtlcmfangecbdgaaCalm
import Derived.Test.YtlcmfangecbdgaaPure4h
import Derived.Test.YtlcmfangecbdgaaW12
namespace Go.Proofs.Ytlcmfangecbdgaa
open Go.RowKit
theorem joinedP_yes {Q o : List Nat} {J : Nat → Nat → Bool} (h : ∀ k, k < o.length → ∀ i, i < k → edge Q (nb o i) (nb o k) = J i k) : joinedP Q o J = true := joinedP_iff.2 h
theorem has_up {s v : Nat} {w : World} {b : Bool} (hs : s < 9223372036854775808) (hv : v ≤ 62) (h : s.testBit v = b) : Calls Try.prog 77 #[.int .i64 s, .int .i64 v] w fun e w' => e = .returned (.bool b) ∧ Below w.heap.size w w' :=
  (has_is hs hv h).mono fun _ _ k => ⟨k.1, by rw [k.2]; exact Below.refl _ _⟩
set_option maxRecDepth 100000 in
set_option maxHeartbeats 4000000 in
theorem areJPath_any (N : Int) (A B : Option Addr) (n c m d : Nat) (X l : List Int) (J : Nat → Nat → Bool) (w : World) (hX : RI w A n X) (hL : RI w B m l) (hn : n ≤ 9223372036854775807) (hm : m ≤ 9223372036854775807) (hmd : m ≤ d)
    (hp : ∀ (i k : Nat) (w' : World), i < k → k < m → m ≤ 7 → Up w w' → Calls Try.prog 105 #[.int .i64 i, .int .i64 k] w' fun e w'' => e = .returned (.bool (J i k)) ∧ Below w'.heap.size w' w'') :
    Calls Try.prog 84 #[.agg #[.int .i64 N, .slice A n c], .slice B m d, .func (.func 105) #[] #[]] w fun e w' => e = .returned (.bool (isJoined N X l J)) ∧ Below w.heap.size w w' := by
  have hbk := Blk.new w 27 #[.int .i64 N, .slice A n c]
  have hU0 : Up w (w.alloc (.cells #[.int .i64 N, .slice A n c] 27)) := by go_grown
  rcases isVerts_cases N X l with hg | ⟨hg, k, Q, o, rfl, rfl, rfl, h, ho⟩
  · have H1 := Lib.hid hg
    have HR := Lib.hid (isJoined_no (J := J) hg)
    rw [HR.out]
    clear hg hp
    go_enter Try.func84, Try.ntmps84
    go_wp2_with fail
    refine (areVertices_is (hX.up (by go_grown)) (hL.up (by go_grown)) hn hm hmd H1.out).mono ?_
    rintro e w1 ⟨rfl, hb1⟩
    have hU1 : Up w w1 := Up.then_ (by go_grown) hb1
    go_wp2
    go_ret
    exact ⟨rfl, hU1⟩
  · obtain rfl : n = k := by rw [← hX.1, ints_len, h.len]
    obtain rfl : m = o.length := by rw [← hL.1, ints_len]
    have H1 := Lib.hid hg
    have hl7 : o.length ≤ 7 := Nat.le_trans ho.len h.le
    have h7 := h.le
    have hp2 := Lib.hid fun i k w' h1 h2 h3 => hp i k w' h1 h2 hl7 h3
    have Hat := Lib.hid fun k hk => ho.at_ (j := k) hk
    have HNo := Lib.hid fun k hk i hi e => joinedP_false (Q := Q) (o := o) (J := J) (i := i) (k := k) hk hi e
    have HYes := Lib.hid (joinedP_yes (Q := Q) (o := o) (J := J))
    have Hb7 := Lib.hid fun v => h.nb7 v
    have HR := Lib.hid (isJoined_ok (J := J) hg)
    rw [HR.out]
    obtain ⟨aX, rfl, _, _⟩ := hX.addr h.pos
    clear hg hp HR
    go_enter Try.func84, Try.ntmps84
    go_wp2_with fail
    refine (areVertices_is (hX.up (by go_grown)) (hL.up (by go_grown)) hn hm hmd H1.out).mono ?_
    rintro e w1 ⟨rfl, hb1⟩
    have hU1 : Up w w1 := Up.then_ (by go_grown) hb1
    replace hX := hX.up hU1
    replace hL := hL.up hU1
    have hbk1 := hbk.up hb1
    go_wp2_with fail
    go_loopw [15] (fun s wr => ∃ k : Nat, k ≤ o.length ∧ s = .int .i64 k ∧ Up w1 wr ∧ Hid (∀ z, z < k → ∀ i, i < z → edge Q (nb o i) (nb o z) = J i z)) (fun s _ => o.length - (intOf s).toNat)
    case atStart => exact ⟨0, Nat.zero_le _, rfl, Up.refl _, fun z hz => absurd hz (by omega)⟩
    case round =>
      obtain ⟨k, hk, rfl, hb, hall⟩ := hrel
      obtain ⟨wo, rfl⟩ : ∃ wo : World, wo = wr := ⟨_, rfl⟩
      by_cases hkn : k < o.length
      · go_wp2_with fail
        go_loopw [19] (fun s wr => ∃ i : Nat, i ≤ k ∧ s = .int .i64 i ∧ Up w1 wr ∧ Hid (∀ z, z < i → edge Q (nb o z) (nb o k) = J z k)) (fun s _ => k - (intOf s).toNat)
        case atStart => exact ⟨0, Nat.zero_le _, rfl, hb, fun z hz => absurd hz (by omega)⟩
        case round =>
          obtain ⟨i, hi, rfl, hb2, hall2⟩ := hrel
          obtain ⟨wi, rfl⟩ : ∃ wi : World, wi = wr := ⟨_, rfl⟩
          by_cases hik : i < k
          · have hil : i < o.length := by omega
            have hXi := hX.up hb2
            have hLi := hL.up hb2
            obtain ⟨ad, rfl, habs, _⟩ := hLi.addr (by omega)
            have hyi := (hbk1.up hb2).two
            have hli := (hbk1.up hb2).lt
            have hci := hLi.nbs hil
            have hck := hLi.nbs hkn
            have hvi := Hat.out i hil
            have hvk := Hat.out k hkn
            have hcr := hXi.nbs hvi
            have hb7 := Hb7.out (nb o i)
            have hxb : aX.block < wi.heap.size := by obtain ⟨_, e, h1, _⟩ := hXi.addr h.pos; injection e with e; subst e; exact h1
            have Hp := Lib.hid (fun w' (hU' : Up wi w') => hp2.out i k w' hik hkn (Up.then_ hU1 (Up.then_ hb2 hU')))
            have hno := Lib.hid (HNo.out k hkn i hik)
            have HE := Lib.hid (show (nb Q (nb o i)).testBit (nb o k) = edge Q (nb o i) (nb o k) from rfl)
            obtain ⟨e, he⟩ : ∃ e, e = edge Q (nb o i) (nb o k) := ⟨_, rfl⟩
            rw [← he] at HE hno
            obtain ⟨r, hr⟩ : ∃ r, r = nb Q (nb o i) := ⟨_, rfl⟩
            rw [← hr] at HE hcr hb7
            obtain ⟨x, hx⟩ : ∃ x, x = nb o i := ⟨_, rfl⟩
            rw [← hx] at hci hvi hcr
            obtain ⟨y, hy⟩ : ∃ y, y = nb o k := ⟨_, rfl⟩
            rw [← hy] at hck hvk HE
            obtain ⟨j, hj⟩ : ∃ j, j = J i k := ⟨_, rfl⟩
            rw [← hj] at Hp hno
            by_cases hej : e = j
            · have HA := Lib.hid (show ∀ z, z < i + 1 → edge Q (nb o z) (nb o k) = J z k from fun z hz => by
                rcases Nat.lt_succ_iff_lt_or_eq.1 hz with h' | rfl
                · exact hall2.out z h'
                · rw [← he, hej, hj])
              subst hej
              clear he hr hx hy hj hno
              cases e
              all_goals
                go_wp2
                have hV0 : Up wi wi.drew := (Up.refl _).drew
                refine wp_region_calm (S := (fun w' => Up wi w' ∧ (∀ b o, b < wi.heap.size → w'.cell? ⟨b, o, none⟩ = wi.cell? ⟨b, o, none⟩) ∧ w'.cell? (ad.add i) = some (.int .i64 (x : Nat)) ∧ w'.cell? (ad.add k) = some (.int .i64 (y : Nat)) ∧ w'.cell? (aX.add x) = some (.int .i64 (r : Nat)))) (by kernel_rfl) (by kernel_rfl) (by exact ⟨hV0, fun _ _ hb => hV0.cell hb, (hV0.cell (by first | assumption | (rw [block_of_add]; assumption))).trans (by assumption), (hV0.cell (by first | assumption | (rw [block_of_add]; assumption))).trans (by assumption), (hV0.cell (by first | assumption | (rw [block_of_add]; assumption))).trans (by assumption)⟩) ?_
                repeat (first | (refine CalmSeq.cons undef (Calm.off (by rfl)) ?_; (try simp only [Act.put, List.setIfInBounds_toArray, List.set_cons_zero, List.set_cons_succ])) | (refine CalmSeq.cons ?_ (Calm.val (by rfl) ?_) ?_; rotate_left; (intro wC hSw; (try dsimp only at hSw); go_simp; done); (try simp only [Act.put, List.setIfInBounds_toArray, List.set_cons_zero, List.set_cons_succ])) | (refine CalmSeq.cons ?_ (Calm.val (by rfl) ?_) ?_; rotate_left; (intro wC hSw; (try dsimp only at hSw); go_simp; with_reducible rfl); (try simp only [Act.put, List.setIfInBounds_toArray, List.set_cons_zero, List.set_cons_succ])) | ((refine CalmSeq.cons ?_ (Calm.call (f := ?_) (args := ?_) (by rfl) ?_ (fun wC hSw => ?_)) ?_; rotate_left 3; (intro wC; go_simp; (refine ⟨?_, ?_⟩ <;> with_reducible rfl)); (go_at_call 77; (with_reducible refine (has_up (by omega) (by omega) HE.out).mono ?_); rintro e wD ⟨rfl, hbD⟩; apply And.intro; (with_reducible rfl); (have hUD := Up.then_ hSw.1 hbD; exact ⟨hUD, fun _ _ hb => hUD.cell hb, (hUD.cell (by first | assumption | (rw [block_of_add]; assumption))).trans (by assumption), (hUD.cell (by first | assumption | (rw [block_of_add]; assumption))).trans (by assumption), (hUD.cell (by first | assumption | (rw [block_of_add]; assumption))).trans (by assumption)⟩))); (try simp only [Act.put, List.setIfInBounds_toArray, List.set_cons_zero, List.set_cons_succ])) | ((refine CalmSeq.cons ?_ (Calm.call (f := ?_) (args := ?_) (by rfl) ?_ (fun wC hSw => ?_)) ?_; rotate_left 3; (intro wC; go_simp; (refine ⟨?_, ?_⟩ <;> with_reducible rfl)); (go_at_call 105; (with_reducible refine (Hp.out _ hSw.1).mono ?_); rintro e wD ⟨rfl, hbD⟩; apply And.intro; (with_reducible rfl); (have hUD := Up.then_ hSw.1 hbD; exact ⟨hUD, fun _ _ hb => hUD.cell hb, (hUD.cell (by first | assumption | (rw [block_of_add]; assumption))).trans (by assumption), (hUD.cell (by first | assumption | (rw [block_of_add]; assumption))).trans (by assumption), (hUD.cell (by first | assumption | (rw [block_of_add]; assumption))).trans (by assumption)⟩))); (try simp only [Act.put, List.setIfInBounds_toArray, List.set_cons_zero, List.set_cons_succ])))
                intro w3 hS3
                have hU3 : Up wi w3 := hS3.1
                clear hS3 hV0
                go_wp2
                go_roundw
                case rel => exact ⟨i + 1, by omega, by go_num, Up.then_ hb2 hU3, HA.out⟩
                case measure => simp [intOf]; omega
            · have HF := Lib.hid (hno.out hej)
              have hjn : j = !e := by cases e <;> cases j <;> simp_all
              subst hjn
              clear he hr hx hy hj hno hej
              cases e
              all_goals
                go_wp2
                have hV0 : Up wi wi.drew := (Up.refl _).drew
                refine wp_region_calm (S := (fun w' => Up wi w' ∧ (∀ b o, b < wi.heap.size → w'.cell? ⟨b, o, none⟩ = wi.cell? ⟨b, o, none⟩) ∧ w'.cell? (ad.add i) = some (.int .i64 (x : Nat)) ∧ w'.cell? (ad.add k) = some (.int .i64 (y : Nat)) ∧ w'.cell? (aX.add x) = some (.int .i64 (r : Nat)))) (by kernel_rfl) (by kernel_rfl) (by exact ⟨hV0, fun _ _ hb => hV0.cell hb, (hV0.cell (by first | assumption | (rw [block_of_add]; assumption))).trans (by assumption), (hV0.cell (by first | assumption | (rw [block_of_add]; assumption))).trans (by assumption), (hV0.cell (by first | assumption | (rw [block_of_add]; assumption))).trans (by assumption)⟩) ?_
                repeat (first | (refine CalmSeq.cons undef (Calm.off (by rfl)) ?_; (try simp only [Act.put, List.setIfInBounds_toArray, List.set_cons_zero, List.set_cons_succ])) | (refine CalmSeq.cons ?_ (Calm.val (by rfl) ?_) ?_; rotate_left; (intro wC hSw; (try dsimp only at hSw); go_simp; done); (try simp only [Act.put, List.setIfInBounds_toArray, List.set_cons_zero, List.set_cons_succ])) | (refine CalmSeq.cons ?_ (Calm.val (by rfl) ?_) ?_; rotate_left; (intro wC hSw; (try dsimp only at hSw); go_simp; with_reducible rfl); (try simp only [Act.put, List.setIfInBounds_toArray, List.set_cons_zero, List.set_cons_succ])) | ((refine CalmSeq.cons ?_ (Calm.call (f := ?_) (args := ?_) (by rfl) ?_ (fun wC hSw => ?_)) ?_; rotate_left 3; (intro wC; go_simp; (refine ⟨?_, ?_⟩ <;> with_reducible rfl)); (go_at_call 77; (with_reducible refine (has_up (by omega) (by omega) HE.out).mono ?_); rintro e wD ⟨rfl, hbD⟩; apply And.intro; (with_reducible rfl); (have hUD := Up.then_ hSw.1 hbD; exact ⟨hUD, fun _ _ hb => hUD.cell hb, (hUD.cell (by first | assumption | (rw [block_of_add]; assumption))).trans (by assumption), (hUD.cell (by first | assumption | (rw [block_of_add]; assumption))).trans (by assumption), (hUD.cell (by first | assumption | (rw [block_of_add]; assumption))).trans (by assumption)⟩))); (try simp only [Act.put, List.setIfInBounds_toArray, List.set_cons_zero, List.set_cons_succ])) | ((refine CalmSeq.cons ?_ (Calm.call (f := ?_) (args := ?_) (by rfl) ?_ (fun wC hSw => ?_)) ?_; rotate_left 3; (intro wC; go_simp; (refine ⟨?_, ?_⟩ <;> with_reducible rfl)); (go_at_call 105; (with_reducible refine (Hp.out _ hSw.1).mono ?_); rintro e wD ⟨rfl, hbD⟩; apply And.intro; (with_reducible rfl); (have hUD := Up.then_ hSw.1 hbD; exact ⟨hUD, fun _ _ hb => hUD.cell hb, (hUD.cell (by first | assumption | (rw [block_of_add]; assumption))).trans (by assumption), (hUD.cell (by first | assumption | (rw [block_of_add]; assumption))).trans (by assumption), (hUD.cell (by first | assumption | (rw [block_of_add]; assumption))).trans (by assumption)⟩))); (try simp only [Act.put, List.setIfInBounds_toArray, List.set_cons_zero, List.set_cons_succ])))
                intro w3 hS3
                have hU3 : Up wi w3 := hS3.1
                clear hS3 hV0
                go_wp2
                go_ret
                rw [HF.out]
                exact ⟨rfl, Up.then_ hU1 (Up.then_ hb2 hU3)⟩
          · obtain rfl : i = k := by omega
            have HA := Lib.hid (show ∀ z, z < i + 1 → ∀ y, y < z → edge Q (nb o y) (nb o z) = J y z from fun z hz => by
              rcases Nat.lt_succ_iff_lt_or_eq.1 hz with h' | rfl
              · exact hall.out z h'
              · exact hall2.out)
            go_wp2
            go_roundw
            case rel => exact ⟨i + 1, by omega, by go_num, hb2, HA.out⟩
            case measure => simp [intOf]; omega
      · obtain rfl : k = o.length := by omega
        have HY := Lib.hid (HYes.out hall.out)
        go_wp2
        go_ret
        rw [HY.out]
        exact ⟨rfl, Up.then_ hU1 hb⟩
end Go.Proofs.Ytlcmfangecbdgaa
