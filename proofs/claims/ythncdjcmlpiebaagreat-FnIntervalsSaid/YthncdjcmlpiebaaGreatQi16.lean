/- Walks of chapter 4: induced paths, holes, claws, the program's. Walks of chapter 4: claws, the program's. Walks of chapter 4: holes, the program's. Walks of chapter 4: induced paths, holes, claws, the program's. Walks of chapter 4: induced paths, holes, the reference's. -/
import Derived.Test.YthncdjcmlpiebaaGreatQi01
import Derived.Test.YthncdjcmlpiebaaGreatQi02
import Derived.Test.YthncdjcmlpiebaaGreatQi04
namespace Go.Proofs.YthncdjcmlpiebaaGreat
open Go.RowKit
set_option maxRecDepth 100000 in
theorem joinedP_yes {Q o : List Nat} {J : Nat → Nat → Bool} (h : ∀ k, k < o.length → ∀ i, i < k → edge Q (nb o i) (nb o k) = J i k) : joinedP Q o J = true := joinedP_iff.2 h
set_option maxRecDepth 100000 in
theorem has_up {s v : Nat} {w : World} {b : Bool} (hs : s < 9223372036854775808) (hv : v ≤ 62) (h : s.testBit v = b) : Calls Tryz.prog 112 #[.int .i64 s, .int .i64 v] w fun e w' => e = .returned (.bool b) ∧ Below w.heap.size w w' :=
  (has_is hs hv h).mono fun _ _ k => ⟨k.1, by rw [k.2]; exact Below.refl _ _⟩
set_option maxRecDepth 100000 in
set_option maxHeartbeats 4000000 in
theorem areJPath_any (N : Int) (A B : Option Addr) (n c m d : Nat) (X l : List Int) (J : Nat → Nat → Bool) (w : World) (hX : RI w A n X) (hL : RI w B m l) (hn : n ≤ 9223372036854775807) (hm : m ≤ 9223372036854775807) (hmd : m ≤ d)
    (hp : ∀ (i k : Nat) (w' : World), i < k → k < m → m ≤ 7 → Up w w' → Calls Tryz.prog 168 #[.int .i64 i, .int .i64 k] w' fun e w'' => e = .returned (.bool (J i k)) ∧ Below w'.heap.size w' w'') :
    Calls Tryz.prog 131 #[.agg #[.int .i64 N, .slice A n c], .slice B m d, .func (.func 168) #[] #[]] w fun e w' => e = .returned (.bool (isJoined N X l J)) ∧ Below w.heap.size w w' := by
  have hbk := Blk.new w 26 #[.int .i64 N, .slice A n c]
  have hU0 : Up w (w.alloc (.cells #[.int .i64 N, .slice A n c] 26)) := by go_grown
  rcases isVerts_cases N X l with hg | ⟨hg, k, Q, o, rfl, rfl, rfl, h, ho⟩
  · have H1 := Lib.hid hg
    have HR := Lib.hid (isJoined_no (J := J) hg)
    rw [HR.out]
    clear hg hp
    go_enter Tryz.func131, Tryz.ntmps131
    go_wp2_with fail
    refine (areVertices_is (hX.up (by go_grown)) (hL.up (by go_grown)) hn hm hmd H1.out).mono ?_
    rintro e w1 ⟨rfl, hb1⟩
    have hU1 : Up w w1 := Up.then_ (by go_grown) hb1
    go_wp2
    go_ret
    exact ⟨rfl, hU1⟩
  · obtain rfl : n = k := by rw [← hX.1, ints_len, h.len]
    obtain rfl : m = o.length := by rw [← hL.1, ints_len]
    have H1 := Lib.hid hg
    have hl7 : o.length ≤ 7 := Nat.le_trans ho.len h.le
    have h7 := h.le
    have hp2 := Lib.hid fun i k w' h1 h2 h3 => hp i k w' h1 h2 hl7 h3
    have Hat := Lib.hid fun k hk => ho.at_ (j := k) hk
    have HNo := Lib.hid fun k hk i hi e => joinedP_false (Q := Q) (o := o) (J := J) (i := i) (k := k) hk hi e
    have HYes := Lib.hid (joinedP_yes (Q := Q) (o := o) (J := J))
    have Hb7 := Lib.hid fun v => h.nb7 v
    have HR := Lib.hid (isJoined_ok (J := J) hg)
    rw [HR.out]
    obtain ⟨aX, rfl, _, _⟩ := hX.addr h.pos
    clear hg hp HR
    go_enter Tryz.func131, Tryz.ntmps131
    go_wp2_with fail
    refine (areVertices_is (hX.up (by go_grown)) (hL.up (by go_grown)) hn hm hmd H1.out).mono ?_
    rintro e w1 ⟨rfl, hb1⟩
    have hU1 : Up w w1 := Up.then_ (by go_grown) hb1
    replace hX := hX.up hU1
    replace hL := hL.up hU1
    have hbk1 := hbk.up hb1
    go_wp2_with fail
    go_loopw [15] (fun s wr => ∃ k : Nat, k ≤ o.length ∧ s = .int .i64 k ∧ Up w1 wr ∧ Hid (∀ z, z < k → ∀ i, i < z → edge Q (nb o i) (nb o z) = J i z)) (fun s _ => o.length - (intOf s).toNat)
    case atStart => exact ⟨0, Nat.zero_le _, rfl, Up.refl _, fun z hz => absurd hz (by omega)⟩
    case round =>
      obtain ⟨k, hk, rfl, hb, hall⟩ := hrel
      obtain ⟨wo, rfl⟩ : ∃ wo : World, wo = wr := ⟨_, rfl⟩
      by_cases hkn : k < o.length
      · go_wp2_with fail
        go_loopw [19] (fun s wr => ∃ i : Nat, i ≤ k ∧ s = .int .i64 i ∧ Up w1 wr ∧ Hid (∀ z, z < i → edge Q (nb o z) (nb o k) = J z k)) (fun s _ => k - (intOf s).toNat)
        case atStart => exact ⟨0, Nat.zero_le _, rfl, hb, fun z hz => absurd hz (by omega)⟩
        case round =>
          obtain ⟨i, hi, rfl, hb2, hall2⟩ := hrel
          obtain ⟨wi, rfl⟩ : ∃ wi : World, wi = wr := ⟨_, rfl⟩
          by_cases hik : i < k
          · have hil : i < o.length := by omega
            have hXi := hX.up hb2
            have hLi := hL.up hb2
            obtain ⟨ad, rfl, habs, _⟩ := hLi.addr (by omega)
            have hyi := (hbk1.up hb2).two
            have hli := (hbk1.up hb2).lt
            have hci := hLi.nbs hil
            have hck := hLi.nbs hkn
            have hvi := Hat.out i hil
            have hvk := Hat.out k hkn
            have hcr := hXi.nbs hvi
            have hb7 := Hb7.out (nb o i)
            have hxb : aX.block < wi.heap.size := by obtain ⟨_, e, h1, _⟩ := hXi.addr h.pos; injection e with e; subst e; exact h1
            have Hp := Lib.hid (fun w' (hU' : Up wi w') => hp2.out i k w' hik hkn (Up.then_ hU1 (Up.then_ hb2 hU')))
            have hno := Lib.hid (HNo.out k hkn i hik)
            have HE := Lib.hid (show (nb Q (nb o i)).testBit (nb o k) = edge Q (nb o i) (nb o k) from rfl)
            obtain ⟨e, he⟩ : ∃ e, e = edge Q (nb o i) (nb o k) := ⟨_, rfl⟩
            rw [← he] at HE hno
            obtain ⟨r, hr⟩ : ∃ r, r = nb Q (nb o i) := ⟨_, rfl⟩
            rw [← hr] at HE hcr hb7
            obtain ⟨x, hx⟩ : ∃ x, x = nb o i := ⟨_, rfl⟩
            rw [← hx] at hci hvi hcr
            obtain ⟨y, hy⟩ : ∃ y, y = nb o k := ⟨_, rfl⟩
            rw [← hy] at hck hvk HE
            obtain ⟨j, hj⟩ : ∃ j, j = J i k := ⟨_, rfl⟩
            rw [← hj] at Hp hno
            by_cases hej : e = j
            · have HA := Lib.hid (show ∀ z, z < i + 1 → edge Q (nb o z) (nb o k) = J z k from fun z hz => by
                rcases Nat.lt_succ_iff_lt_or_eq.1 hz with h' | rfl
                · exact hall2.out z h'
                · rw [← he, hej, hj])
              subst hej
              clear he hr hx hy hj hno
              cases e
              all_goals
                go_wp2
                have hV0 : Up wi wi.drew := (Up.refl _).drew
                refine wp_region_calm (S := (fun w' => Up wi w' ∧ (∀ b o, b < wi.heap.size → w'.cell? ⟨b, o, none⟩ = wi.cell? ⟨b, o, none⟩) ∧ w'.cell? (ad.add i) = some (.int .i64 (x : Nat)) ∧ w'.cell? (ad.add k) = some (.int .i64 (y : Nat)) ∧ w'.cell? (aX.add x) = some (.int .i64 (r : Nat)))) (by kernel_rfl) (by kernel_rfl) (by exact ⟨hV0, fun _ _ hb => hV0.cell hb, (hV0.cell (by first | assumption | (rw [block_of_add]; assumption))).trans (by assumption), (hV0.cell (by first | assumption | (rw [block_of_add]; assumption))).trans (by assumption), (hV0.cell (by first | assumption | (rw [block_of_add]; assumption))).trans (by assumption)⟩) ?_
                repeat (first | (refine CalmSeq.cons undef (Calm.off (by rfl)) ?_; (try simp only [Act.put, List.setIfInBounds_toArray, List.set_cons_zero, List.set_cons_succ])) | (refine CalmSeq.cons ?_ (Calm.val (by rfl) ?_) ?_; rotate_left; (intro wC hSw; (try dsimp only at hSw); go_simp; done); (try simp only [Act.put, List.setIfInBounds_toArray, List.set_cons_zero, List.set_cons_succ])) | (refine CalmSeq.cons ?_ (Calm.val (by rfl) ?_) ?_; rotate_left; (intro wC hSw; (try dsimp only at hSw); go_simp; with_reducible rfl); (try simp only [Act.put, List.setIfInBounds_toArray, List.set_cons_zero, List.set_cons_succ])) | ((refine CalmSeq.cons ?_ (Calm.call (f := ?_) (args := ?_) (by rfl) ?_ (fun wC hSw => ?_)) ?_; rotate_left 3; (intro wC; go_simp; (refine ⟨?_, ?_⟩ <;> with_reducible rfl)); (go_at_call 112; (with_reducible refine (has_up (by omega) (by omega) HE.out).mono ?_); rintro e wD ⟨rfl, hbD⟩; apply And.intro; (with_reducible rfl); (have hUD := Up.then_ hSw.1 hbD; exact ⟨hUD, fun _ _ hb => hUD.cell hb, (hUD.cell (by first | assumption | (rw [block_of_add]; assumption))).trans (by assumption), (hUD.cell (by first | assumption | (rw [block_of_add]; assumption))).trans (by assumption), (hUD.cell (by first | assumption | (rw [block_of_add]; assumption))).trans (by assumption)⟩))); (try simp only [Act.put, List.setIfInBounds_toArray, List.set_cons_zero, List.set_cons_succ])) | ((refine CalmSeq.cons ?_ (Calm.call (f := ?_) (args := ?_) (by rfl) ?_ (fun wC hSw => ?_)) ?_; rotate_left 3; (intro wC; go_simp; (refine ⟨?_, ?_⟩ <;> with_reducible rfl)); (go_at_call 168; (with_reducible refine (Hp.out _ hSw.1).mono ?_); rintro e wD ⟨rfl, hbD⟩; apply And.intro; (with_reducible rfl); (have hUD := Up.then_ hSw.1 hbD; exact ⟨hUD, fun _ _ hb => hUD.cell hb, (hUD.cell (by first | assumption | (rw [block_of_add]; assumption))).trans (by assumption), (hUD.cell (by first | assumption | (rw [block_of_add]; assumption))).trans (by assumption), (hUD.cell (by first | assumption | (rw [block_of_add]; assumption))).trans (by assumption)⟩))); (try simp only [Act.put, List.setIfInBounds_toArray, List.set_cons_zero, List.set_cons_succ])))
                intro w3 hS3
                have hU3 : Up wi w3 := hS3.1
                clear hS3 hV0
                go_wp2
                go_roundw
                case rel => exact ⟨i + 1, by omega, by go_num, Up.then_ hb2 hU3, HA.out⟩
                case measure => simp [intOf]; omega
            · have HF := Lib.hid (hno.out hej)
              have hjn : j = !e := by cases e <;> cases j <;> simp_all
              subst hjn
              clear he hr hx hy hj hno hej
              cases e
              all_goals
                go_wp2
                have hV0 : Up wi wi.drew := (Up.refl _).drew
                refine wp_region_calm (S := (fun w' => Up wi w' ∧ (∀ b o, b < wi.heap.size → w'.cell? ⟨b, o, none⟩ = wi.cell? ⟨b, o, none⟩) ∧ w'.cell? (ad.add i) = some (.int .i64 (x : Nat)) ∧ w'.cell? (ad.add k) = some (.int .i64 (y : Nat)) ∧ w'.cell? (aX.add x) = some (.int .i64 (r : Nat)))) (by kernel_rfl) (by kernel_rfl) (by exact ⟨hV0, fun _ _ hb => hV0.cell hb, (hV0.cell (by first | assumption | (rw [block_of_add]; assumption))).trans (by assumption), (hV0.cell (by first | assumption | (rw [block_of_add]; assumption))).trans (by assumption), (hV0.cell (by first | assumption | (rw [block_of_add]; assumption))).trans (by assumption)⟩) ?_
                repeat (first | (refine CalmSeq.cons undef (Calm.off (by rfl)) ?_; (try simp only [Act.put, List.setIfInBounds_toArray, List.set_cons_zero, List.set_cons_succ])) | (refine CalmSeq.cons ?_ (Calm.val (by rfl) ?_) ?_; rotate_left; (intro wC hSw; (try dsimp only at hSw); go_simp; done); (try simp only [Act.put, List.setIfInBounds_toArray, List.set_cons_zero, List.set_cons_succ])) | (refine CalmSeq.cons ?_ (Calm.val (by rfl) ?_) ?_; rotate_left; (intro wC hSw; (try dsimp only at hSw); go_simp; with_reducible rfl); (try simp only [Act.put, List.setIfInBounds_toArray, List.set_cons_zero, List.set_cons_succ])) | ((refine CalmSeq.cons ?_ (Calm.call (f := ?_) (args := ?_) (by rfl) ?_ (fun wC hSw => ?_)) ?_; rotate_left 3; (intro wC; go_simp; (refine ⟨?_, ?_⟩ <;> with_reducible rfl)); (go_at_call 112; (with_reducible refine (has_up (by omega) (by omega) HE.out).mono ?_); rintro e wD ⟨rfl, hbD⟩; apply And.intro; (with_reducible rfl); (have hUD := Up.then_ hSw.1 hbD; exact ⟨hUD, fun _ _ hb => hUD.cell hb, (hUD.cell (by first | assumption | (rw [block_of_add]; assumption))).trans (by assumption), (hUD.cell (by first | assumption | (rw [block_of_add]; assumption))).trans (by assumption), (hUD.cell (by first | assumption | (rw [block_of_add]; assumption))).trans (by assumption)⟩))); (try simp only [Act.put, List.setIfInBounds_toArray, List.set_cons_zero, List.set_cons_succ])) | ((refine CalmSeq.cons ?_ (Calm.call (f := ?_) (args := ?_) (by rfl) ?_ (fun wC hSw => ?_)) ?_; rotate_left 3; (intro wC; go_simp; (refine ⟨?_, ?_⟩ <;> with_reducible rfl)); (go_at_call 168; (with_reducible refine (Hp.out _ hSw.1).mono ?_); rintro e wD ⟨rfl, hbD⟩; apply And.intro; (with_reducible rfl); (have hUD := Up.then_ hSw.1 hbD; exact ⟨hUD, fun _ _ hb => hUD.cell hb, (hUD.cell (by first | assumption | (rw [block_of_add]; assumption))).trans (by assumption), (hUD.cell (by first | assumption | (rw [block_of_add]; assumption))).trans (by assumption), (hUD.cell (by first | assumption | (rw [block_of_add]; assumption))).trans (by assumption)⟩))); (try simp only [Act.put, List.setIfInBounds_toArray, List.set_cons_zero, List.set_cons_succ])))
                intro w3 hS3
                have hU3 : Up wi w3 := hS3.1
                clear hS3 hV0
                go_wp2
                go_ret
                rw [HF.out]
                exact ⟨rfl, Up.then_ hU1 (Up.then_ hb2 hU3)⟩
          · obtain rfl : i = k := by omega
            have HA := Lib.hid (show ∀ z, z < i + 1 → ∀ y, y < z → edge Q (nb o y) (nb o z) = J y z from fun z hz => by
              rcases Nat.lt_succ_iff_lt_or_eq.1 hz with h' | rfl
              · exact hall.out z h'
              · exact hall2.out)
            go_wp2
            go_roundw
            case rel => exact ⟨i + 1, by omega, by go_num, hb2, HA.out⟩
            case measure => simp [intOf]; omega
      · obtain rfl : k = o.length := by omega
        have HY := Lib.hid (HYes.out hall.out)
        go_wp2
        go_ret
        rw [HY.out]
        exact ⟨rfl, Up.then_ hU1 hb⟩
end Go.Proofs.YthncdjcmlpiebaaGreat
namespace Go.Proofs.YthncdjcmlpiebaaGreat
open Go.RowKit
end Go.Proofs.YthncdjcmlpiebaaGreat
namespace Go.Proofs.YthncdjcmlpiebaaGreat
open Go.RowKit
set_option maxRecDepth 100000 in
set_option maxHeartbeats 4000000 in
theorem areJHole_any (N : Int) (A B : Option Addr) (n c m d bL : Nat) (X l : List Int) (J : Nat → Nat → Bool) (w : World) (hX : RI w A n X) (hL : RI w B m l) (hn : n ≤ 9223372036854775807) (hm : m ≤ 9223372036854775807) (hmd : m ≤ d)
    (hp : ∀ (i k : Nat) (w' : World), i < k → k < m → m ≤ 7 → Up w w' → Calls Tryz.prog 151 #[.int .i64 i, .int .i64 k, .pointer (some ⟨bL, 0, none⟩)] w' fun e w'' => e = .returned (.bool (J i k)) ∧ Below w'.heap.size w' w'') :
    Calls Tryz.prog 131 #[.agg #[.int .i64 N, .slice A n c], .slice B m d, .func (.func 151) #[] #[.pointer (some ⟨bL, 0, none⟩)]] w fun e w' => e = .returned (.bool (isJoined N X l J)) ∧ Below w.heap.size w w' := by
  have hbk := Blk.new w 26 #[.int .i64 N, .slice A n c]
  have hU0 : Up w (w.alloc (.cells #[.int .i64 N, .slice A n c] 26)) := by go_grown
  rcases isVerts_cases N X l with hg | ⟨hg, k, Q, o, rfl, rfl, rfl, h, ho⟩
  · have H1 := Lib.hid hg
    have HR := Lib.hid (isJoined_no (J := J) hg)
    rw [HR.out]
    clear hg hp
    go_enter Tryz.func131, Tryz.ntmps131
    go_wp2_with fail
    refine (areVertices_is (hX.up (by go_grown)) (hL.up (by go_grown)) hn hm hmd H1.out).mono ?_
    rintro e w1 ⟨rfl, hb1⟩
    have hU1 : Up w w1 := Up.then_ (by go_grown) hb1
    go_wp2
    go_ret
    exact ⟨rfl, hU1⟩
  · obtain rfl : n = k := by rw [← hX.1, ints_len, h.len]
    obtain rfl : m = o.length := by rw [← hL.1, ints_len]
    have H1 := Lib.hid hg
    have hl7 : o.length ≤ 7 := Nat.le_trans ho.len h.le
    have h7 := h.le
    have hp2 := Lib.hid fun i k w' h1 h2 h3 => hp i k w' h1 h2 hl7 h3
    have Hat := Lib.hid fun k hk => ho.at_ (j := k) hk
    have HNo := Lib.hid fun k hk i hi e => joinedP_false (Q := Q) (o := o) (J := J) (i := i) (k := k) hk hi e
    have HYes := Lib.hid (joinedP_yes (Q := Q) (o := o) (J := J))
    have Hb7 := Lib.hid fun v => h.nb7 v
    have HR := Lib.hid (isJoined_ok (J := J) hg)
    rw [HR.out]
    obtain ⟨aX, rfl, _, _⟩ := hX.addr h.pos
    clear hg hp HR
    go_enter Tryz.func131, Tryz.ntmps131
    go_wp2_with fail
    refine (areVertices_is (hX.up (by go_grown)) (hL.up (by go_grown)) hn hm hmd H1.out).mono ?_
    rintro e w1 ⟨rfl, hb1⟩
    have hU1 : Up w w1 := Up.then_ (by go_grown) hb1
    replace hX := hX.up hU1
    replace hL := hL.up hU1
    have hbk1 := hbk.up hb1
    go_wp2_with fail
    go_loopw [15] (fun s wr => ∃ k : Nat, k ≤ o.length ∧ s = .int .i64 k ∧ Up w1 wr ∧ Hid (∀ z, z < k → ∀ i, i < z → edge Q (nb o i) (nb o z) = J i z)) (fun s _ => o.length - (intOf s).toNat)
    case atStart => exact ⟨0, Nat.zero_le _, rfl, Up.refl _, fun z hz => absurd hz (by omega)⟩
    case round =>
      obtain ⟨k, hk, rfl, hb, hall⟩ := hrel
      obtain ⟨wo, rfl⟩ : ∃ wo : World, wo = wr := ⟨_, rfl⟩
      by_cases hkn : k < o.length
      · go_wp2_with fail
        go_loopw [19] (fun s wr => ∃ i : Nat, i ≤ k ∧ s = .int .i64 i ∧ Up w1 wr ∧ Hid (∀ z, z < i → edge Q (nb o z) (nb o k) = J z k)) (fun s _ => k - (intOf s).toNat)
        case atStart => exact ⟨0, Nat.zero_le _, rfl, hb, fun z hz => absurd hz (by omega)⟩
        case round =>
          obtain ⟨i, hi, rfl, hb2, hall2⟩ := hrel
          obtain ⟨wi, rfl⟩ : ∃ wi : World, wi = wr := ⟨_, rfl⟩
          by_cases hik : i < k
          · have hil : i < o.length := by omega
            have hXi := hX.up hb2
            have hLi := hL.up hb2
            obtain ⟨ad, rfl, habs, _⟩ := hLi.addr (by omega)
            have hyi := (hbk1.up hb2).two
            have hli := (hbk1.up hb2).lt
            have hci := hLi.nbs hil
            have hck := hLi.nbs hkn
            have hvi := Hat.out i hil
            have hvk := Hat.out k hkn
            have hcr := hXi.nbs hvi
            have hb7 := Hb7.out (nb o i)
            have hxb : aX.block < wi.heap.size := by obtain ⟨_, e, h1, _⟩ := hXi.addr h.pos; injection e with e; subst e; exact h1
            have Hp := Lib.hid (fun w' (hU' : Up wi w') => hp2.out i k w' hik hkn (Up.then_ hU1 (Up.then_ hb2 hU')))
            have hno := Lib.hid (HNo.out k hkn i hik)
            have HE := Lib.hid (show (nb Q (nb o i)).testBit (nb o k) = edge Q (nb o i) (nb o k) from rfl)
            obtain ⟨e, he⟩ : ∃ e, e = edge Q (nb o i) (nb o k) := ⟨_, rfl⟩
            rw [← he] at HE hno
            obtain ⟨r, hr⟩ : ∃ r, r = nb Q (nb o i) := ⟨_, rfl⟩
            rw [← hr] at HE hcr hb7
            obtain ⟨x, hx⟩ : ∃ x, x = nb o i := ⟨_, rfl⟩
            rw [← hx] at hci hvi hcr
            obtain ⟨y, hy⟩ : ∃ y, y = nb o k := ⟨_, rfl⟩
            rw [← hy] at hck hvk HE
            obtain ⟨j, hj⟩ : ∃ j, j = J i k := ⟨_, rfl⟩
            rw [← hj] at Hp hno
            by_cases hej : e = j
            · have HA := Lib.hid (show ∀ z, z < i + 1 → edge Q (nb o z) (nb o k) = J z k from fun z hz => by
                rcases Nat.lt_succ_iff_lt_or_eq.1 hz with h' | rfl
                · exact hall2.out z h'
                · rw [← he, hej, hj])
              subst hej
              clear he hr hx hy hj hno
              cases e
              all_goals
                go_wp2
                have hV0 : Up wi wi.drew := (Up.refl _).drew
                refine wp_region_calm (S := (fun w' => Up wi w' ∧ (∀ b o, b < wi.heap.size → w'.cell? ⟨b, o, none⟩ = wi.cell? ⟨b, o, none⟩) ∧ w'.cell? (ad.add i) = some (.int .i64 (x : Nat)) ∧ w'.cell? (ad.add k) = some (.int .i64 (y : Nat)) ∧ w'.cell? (aX.add x) = some (.int .i64 (r : Nat)))) (by kernel_rfl) (by kernel_rfl) (by exact ⟨hV0, fun _ _ hb => hV0.cell hb, (hV0.cell (by first | assumption | (rw [block_of_add]; assumption))).trans (by assumption), (hV0.cell (by first | assumption | (rw [block_of_add]; assumption))).trans (by assumption), (hV0.cell (by first | assumption | (rw [block_of_add]; assumption))).trans (by assumption)⟩) ?_
                repeat (first | (refine CalmSeq.cons undef (Calm.off (by rfl)) ?_; (try simp only [Act.put, List.setIfInBounds_toArray, List.set_cons_zero, List.set_cons_succ])) | (refine CalmSeq.cons ?_ (Calm.val (by rfl) ?_) ?_; rotate_left; (intro wC hSw; (try dsimp only at hSw); go_simp; done); (try simp only [Act.put, List.setIfInBounds_toArray, List.set_cons_zero, List.set_cons_succ])) | (refine CalmSeq.cons ?_ (Calm.val (by rfl) ?_) ?_; rotate_left; (intro wC hSw; (try dsimp only at hSw); go_simp; with_reducible rfl); (try simp only [Act.put, List.setIfInBounds_toArray, List.set_cons_zero, List.set_cons_succ])) | ((refine CalmSeq.cons ?_ (Calm.call (f := ?_) (args := ?_) (by rfl) ?_ (fun wC hSw => ?_)) ?_; rotate_left 3; (intro wC; go_simp; (refine ⟨?_, ?_⟩ <;> with_reducible rfl)); (go_at_call 112; (with_reducible refine (has_up (by omega) (by omega) HE.out).mono ?_); rintro e wD ⟨rfl, hbD⟩; apply And.intro; (with_reducible rfl); (have hUD := Up.then_ hSw.1 hbD; exact ⟨hUD, fun _ _ hb => hUD.cell hb, (hUD.cell (by first | assumption | (rw [block_of_add]; assumption))).trans (by assumption), (hUD.cell (by first | assumption | (rw [block_of_add]; assumption))).trans (by assumption), (hUD.cell (by first | assumption | (rw [block_of_add]; assumption))).trans (by assumption)⟩))); (try simp only [Act.put, List.setIfInBounds_toArray, List.set_cons_zero, List.set_cons_succ])) | ((refine CalmSeq.cons ?_ (Calm.call (f := ?_) (args := ?_) (by rfl) ?_ (fun wC hSw => ?_)) ?_; rotate_left 3; (intro wC; go_simp; (refine ⟨?_, ?_⟩ <;> with_reducible rfl)); (go_at_call 151; (with_reducible refine (Hp.out _ hSw.1).mono ?_); rintro e wD ⟨rfl, hbD⟩; apply And.intro; (with_reducible rfl); (have hUD := Up.then_ hSw.1 hbD; exact ⟨hUD, fun _ _ hb => hUD.cell hb, (hUD.cell (by first | assumption | (rw [block_of_add]; assumption))).trans (by assumption), (hUD.cell (by first | assumption | (rw [block_of_add]; assumption))).trans (by assumption), (hUD.cell (by first | assumption | (rw [block_of_add]; assumption))).trans (by assumption)⟩))); (try simp only [Act.put, List.setIfInBounds_toArray, List.set_cons_zero, List.set_cons_succ])))
                intro w3 hS3
                have hU3 : Up wi w3 := hS3.1
                clear hS3 hV0
                go_wp2
                go_roundw
                case rel => exact ⟨i + 1, by omega, by go_num, Up.then_ hb2 hU3, HA.out⟩
                case measure => simp [intOf]; omega
            · have HF := Lib.hid (hno.out hej)
              have hjn : j = !e := by cases e <;> cases j <;> simp_all
              subst hjn
              clear he hr hx hy hj hno hej
              cases e
              all_goals
                go_wp2
                have hV0 : Up wi wi.drew := (Up.refl _).drew
                refine wp_region_calm (S := (fun w' => Up wi w' ∧ (∀ b o, b < wi.heap.size → w'.cell? ⟨b, o, none⟩ = wi.cell? ⟨b, o, none⟩) ∧ w'.cell? (ad.add i) = some (.int .i64 (x : Nat)) ∧ w'.cell? (ad.add k) = some (.int .i64 (y : Nat)) ∧ w'.cell? (aX.add x) = some (.int .i64 (r : Nat)))) (by kernel_rfl) (by kernel_rfl) (by exact ⟨hV0, fun _ _ hb => hV0.cell hb, (hV0.cell (by first | assumption | (rw [block_of_add]; assumption))).trans (by assumption), (hV0.cell (by first | assumption | (rw [block_of_add]; assumption))).trans (by assumption), (hV0.cell (by first | assumption | (rw [block_of_add]; assumption))).trans (by assumption)⟩) ?_
                repeat (first | (refine CalmSeq.cons undef (Calm.off (by rfl)) ?_; (try simp only [Act.put, List.setIfInBounds_toArray, List.set_cons_zero, List.set_cons_succ])) | (refine CalmSeq.cons ?_ (Calm.val (by rfl) ?_) ?_; rotate_left; (intro wC hSw; (try dsimp only at hSw); go_simp; done); (try simp only [Act.put, List.setIfInBounds_toArray, List.set_cons_zero, List.set_cons_succ])) | (refine CalmSeq.cons ?_ (Calm.val (by rfl) ?_) ?_; rotate_left; (intro wC hSw; (try dsimp only at hSw); go_simp; with_reducible rfl); (try simp only [Act.put, List.setIfInBounds_toArray, List.set_cons_zero, List.set_cons_succ])) | ((refine CalmSeq.cons ?_ (Calm.call (f := ?_) (args := ?_) (by rfl) ?_ (fun wC hSw => ?_)) ?_; rotate_left 3; (intro wC; go_simp; (refine ⟨?_, ?_⟩ <;> with_reducible rfl)); (go_at_call 112; (with_reducible refine (has_up (by omega) (by omega) HE.out).mono ?_); rintro e wD ⟨rfl, hbD⟩; apply And.intro; (with_reducible rfl); (have hUD := Up.then_ hSw.1 hbD; exact ⟨hUD, fun _ _ hb => hUD.cell hb, (hUD.cell (by first | assumption | (rw [block_of_add]; assumption))).trans (by assumption), (hUD.cell (by first | assumption | (rw [block_of_add]; assumption))).trans (by assumption), (hUD.cell (by first | assumption | (rw [block_of_add]; assumption))).trans (by assumption)⟩))); (try simp only [Act.put, List.setIfInBounds_toArray, List.set_cons_zero, List.set_cons_succ])) | ((refine CalmSeq.cons ?_ (Calm.call (f := ?_) (args := ?_) (by rfl) ?_ (fun wC hSw => ?_)) ?_; rotate_left 3; (intro wC; go_simp; (refine ⟨?_, ?_⟩ <;> with_reducible rfl)); (go_at_call 151; (with_reducible refine (Hp.out _ hSw.1).mono ?_); rintro e wD ⟨rfl, hbD⟩; apply And.intro; (with_reducible rfl); (have hUD := Up.then_ hSw.1 hbD; exact ⟨hUD, fun _ _ hb => hUD.cell hb, (hUD.cell (by first | assumption | (rw [block_of_add]; assumption))).trans (by assumption), (hUD.cell (by first | assumption | (rw [block_of_add]; assumption))).trans (by assumption), (hUD.cell (by first | assumption | (rw [block_of_add]; assumption))).trans (by assumption)⟩))); (try simp only [Act.put, List.setIfInBounds_toArray, List.set_cons_zero, List.set_cons_succ])))
                intro w3 hS3
                have hU3 : Up wi w3 := hS3.1
                clear hS3 hV0
                go_wp2
                go_ret
                rw [HF.out]
                exact ⟨rfl, Up.then_ hU1 (Up.then_ hb2 hU3)⟩
          · obtain rfl : i = k := by omega
            have HA := Lib.hid (show ∀ z, z < i + 1 → ∀ y, y < z → edge Q (nb o y) (nb o z) = J y z from fun z hz => by
              rcases Nat.lt_succ_iff_lt_or_eq.1 hz with h' | rfl
              · exact hall.out z h'
              · exact hall2.out)
            go_wp2
            go_roundw
            case rel => exact ⟨i + 1, by omega, by go_num, hb2, HA.out⟩
            case measure => simp [intOf]; omega
      · obtain rfl : k = o.length := by omega
        have HY := Lib.hid (HYes.out hall.out)
        go_wp2
        go_ret
        rw [HY.out]
        exact ⟨rfl, Up.then_ hU1 hb⟩
end Go.Proofs.YthncdjcmlpiebaaGreat
namespace Go.Proofs.YthncdjcmlpiebaaGreat
open Go.RowKit
set_option maxRecDepth 100000 in
theorem jPath_any (i k : Nat) (w : World) (hi : i ≤ 1000) (_hk : k ≤ 1000) : Calls Tryz.prog 168 #[.int .i64 i, .int .i64 k] w fun e w' => e = .returned (.bool (jPath i k)) ∧ Below w.heap.size w w' := by
  have hw1 : wrap64 ((i : Int) + 1) = ((i + 1 : Nat) : Int) := by rw [IntWalk.wrap64_in _ ⟨by omega, by omega⟩]; omega
  have HB := Lib.hid (show ((k : Int) == ((i + 1 : Nat) : Int)) = jPath i k by rw [jPath, Bool.eq_iff_iff, beq_iff_eq, decide_eq_true_eq]; omega)
  have HB2 := Lib.hid (show ((k : Int) == (i : Int) + 1) = jPath i k by rw [jPath, Bool.eq_iff_iff, beq_iff_eq, decide_eq_true_eq]; omega)
  go_enter Tryz.func168, Tryz.ntmps168
  go_wp2
  go_ret
  exact ⟨ret_bool (by first | exact HB.out | exact HB2.out), Below.refl _ _⟩
set_option maxRecDepth 100000 in
theorem jHole_any (B : Option Addr) (i k m d bL : Nat) (w : World) (hi : i ≤ 1000) (_hk : k ≤ 1000) (hm0 : 0 < m) (hm : m ≤ 1000) (hL : Blk w bL 24 #[.slice B m d]) : Calls Tryz.prog 151 #[.int .i64 i, .int .i64 k, .pointer (some ⟨bL, 0, none⟩)] w fun e w' => e = .returned (.bool (jHole m i k)) ∧ Below w.heap.size w w' := by
  have hy := hL.one
  have HJ := Lib.hid (show jHole m i k = (decide (k = i + 1) || (decide (i = 0) && decide (k = m - 1))) by
    rw [jHole]
    congr 2
    exact decide_eq_decide.2 (by omega))
  have hw1 : wrap64 ((i : Int) + 1) = (i : Int) + 1 := IntWalk.wrap64_in _ ⟨by omega, by omega⟩
  have hw2 : wrap64 ((m : Int) - 1) = (m : Int) - 1 := IntWalk.wrap64_in _ ⟨by omega, by omega⟩
  rw [HJ.out]
  clear HJ hL
  rcases Bool.eq_false_or_eq_true ((k : Int) == (i : Int) + 1) with b1 | b1
  · have H1 := Lib.hid (show (decide (k = i + 1) || (decide (i = 0) && decide (k = m - 1))) = true by
      rw [beq_iff_eq] at b1
      rw [decide_eq_true (by omega)]; rfl)
    go_enter Tryz.func151, Tryz.ntmps151
    go_wp2
    go_ret
    exact ⟨ret_bool H1.out.symm, Below.refl _ _⟩
  · have n1 : ¬ k = i + 1 := fun e => by rw [beq_eq_false_iff_ne] at b1; omega
    rw [decide_eq_false n1, Bool.false_or]
    clear n1
    rcases Bool.eq_false_or_eq_true ((i : Int) == 0) with b2 | b2
    · have n2 : i = 0 := by rw [beq_iff_eq] at b2; omega
      have H1 := Lib.hid (show ((k : Int) == (m : Int) - 1) = (decide (i = 0) && decide (k = m - 1)) by
        rw [decide_eq_true n2, Bool.true_and, Bool.eq_iff_iff, beq_iff_eq, decide_eq_true_eq]; omega)
      rcases Bool.eq_false_or_eq_true ((k : Int) == (m : Int) - 1) with b3 | b3
      all_goals
        have H2 := Lib.hid (b3.symm.trans H1.out)
        clear n2
        go_enter Tryz.func151, Tryz.ntmps151
        go_wp2
        go_ret
        exact ⟨ret_bool H2.out, Below.refl _ _⟩
    · have H1 := Lib.hid (show (decide (i = 0) && decide (k = m - 1)) = false by
        rw [beq_eq_false_iff_ne] at b2
        rw [decide_eq_false (by omega)]; rfl)
      go_enter Tryz.func151, Tryz.ntmps151
      go_wp2
      go_ret
      exact ⟨ret_bool H1.out.symm, Below.refl _ _⟩
set_option maxRecDepth 100000 in
set_option maxHeartbeats 1000000 in
theorem implIsPath_any (N : Int) (A B : Option Addr) (n c m d : Nat) (X l : List Int) (w : World) (hX : RI w A n X) (hL : RI w B m l) (hn : n ≤ 9223372036854775807) (hm : m ≤ 9223372036854775807) (hmd : m ≤ d) :
    Calls Tryz.prog 148 #[.agg #[.int .i64 N, .slice A n c], .slice B m d] w fun e w' => e = .returned (.bool (isPathL N X l)) ∧ Below w.heap.size w w' := by
  have hbk := Blk.new w 26 #[.int .i64 N, .slice A n c]
  have hyb := hbk.two
  have hU0 : Up w (w.alloc (.cells #[.int .i64 N, .slice A n c] 26)) := by go_grown
  have HL := Lib.hid hL.1
  by_cases h0 : 0 < m
  · have HR := Lib.hid (isPathL_ok (N := N) (X := X) (l := l) (by rw [HL.out]; exact h0))
    rw [HR.out]
    go_enter Tryz.func148, Tryz.ntmps148
    go_wp2_with fail
    refine (areJPath_any N A B n c m d X l jPath _ (hX.up hU0) (hL.up hU0) hn hm hmd (fun i k w' h1 h2 h3 _ => jPath_any i k w' (by omega) (by omega))).mono ?_
    rintro e w1 ⟨rfl, hb1⟩
    go_wp2
    go_ret
    exact ⟨rfl, Up.then_ hU0 hb1⟩
  · have HR := Lib.hid (isPathL_few (N := N) (X := X) (l := l) (by rw [HL.out]; exact h0))
    rw [HR.out]
    obtain rfl : m = 0 := by omega
    go_enter Tryz.func148, Tryz.ntmps148
    go_wp2
    go_ret
    exact ⟨rfl, hU0⟩
set_option maxRecDepth 100000 in
set_option maxRecDepth 100000 in
set_option maxHeartbeats 1000000 in
theorem implIsHole_any (N : Int) (A B : Option Addr) (n c m d : Nat) (X l : List Int) (w : World) (hX : RI w A n X) (hL : RI w B m l) (hn : n ≤ 9223372036854775807) (hm : m ≤ 9223372036854775807) (hmd : m ≤ d) :
    Calls Tryz.prog 102 #[.agg #[.int .i64 N, .slice A n c], .slice B m d] w fun e w' => e = .returned (.bool (isHoleL N X l)) ∧ Below w.heap.size w w' := by
  have hbk := (Blk.new w 26 #[.int .i64 N, .slice A n c]).alloc (.cells #[.slice B m d] 24)
  have hbl := Blk.new_at (w := w.alloc (.cells #[.int .i64 N, .slice A n c] 26)) (t := 24) (cs := #[.slice B m d]) (g := w.heap.size + 1) (by simp)
  have hyb := hbk.two
  have hyl := hbl.one
  have hU0 : Up w ((w.alloc (.cells #[.int .i64 N, .slice A n c] 26)).alloc (.cells #[.slice B m d] 24)) := by go_grown
  have HL := Lib.hid hL.1
  by_cases h0 : 4 ≤ m
  · have HR := Lib.hid (isHoleL_ok (N := N) (X := X) (l := l) (by rw [HL.out]; exact h0))
    rw [HR.out]
    have e4 : decide ((4 : Int) ≤ (m : Int)) = true := decide_eq_true (by omega)
    have hc := areJHole_any N A B n c m d (w.heap.size + 1) X l (jHole m) _ (hX.up hU0) (hL.up hU0) hn hm hmd (fun i k w' h1 h2 h3 hU' => jHole_any B i k m d _ w' (by omega) (by omega) (by omega) (by omega) (hbl.up hU'))
    rw [show jHole m = jHole l.length by rw [HL.out]] at hc
    have Hc := Lib.hid hc
    clear hc
    go_enter Tryz.func102, Tryz.ntmps102
    go_wp2_with fail
    refine Hc.out.mono ?_
    rintro e w1 ⟨rfl, hb1⟩
    go_wp2
    go_ret
    exact ⟨rfl, Up.then_ hU0 hb1⟩
  · have HR := Lib.hid (isHoleL_few (N := N) (X := X) (l := l) (by rw [HL.out]; exact h0))
    rw [HR.out]
    have e4 : decide ((4 : Int) ≤ (m : Int)) = false := decide_eq_false (by omega)
    go_enter Tryz.func102, Tryz.ntmps102
    go_wp2
    go_ret
    exact ⟨rfl, hU0⟩
end Go.Proofs.YthncdjcmlpiebaaGreat
namespace Go.Proofs.YthncdjcmlpiebaaGreat
open Go.RowKit
set_option maxRecDepth 100000 in
theorem joinedP_yes2 {n : Nat} {Q o : List Nat} {J : Nat → Nat → Bool} (hq : GOk n Q) (h : ∀ k, k < o.length → ∀ i, i < k → edge Q (nb o k) (nb o i) = J i k) : joinedP Q o J = true :=
  joinedP_iff.2 fun k hk i hi => (hq.edge_comm _ _).trans (h k hk i hi)
set_option maxRecDepth 100000 in
theorem joinedP_no2 {n : Nat} {Q o : List Nat} {J : Nat → Nat → Bool} (hq : GOk n Q) {i k : Nat} (hk : k < o.length) (hi : i < k) (h : edge Q (nb o k) (nb o i) ≠ J i k) : joinedP Q o J = false :=
  joinedP_false hk hi fun e => h ((hq.edge_comm _ _).trans e)
set_option maxRecDepth 100000 in
theorem add_zero_ (a : Addr) : a.add 0 = a := by unfold Addr.add; simp
set_option maxRecDepth 100000 in
set_option maxHeartbeats 4000000 in
theorem specIsPath_any (N : Int) (A B : Option Addr) (n c m d : Nat) (X l : List Int) (w : World) (hX : RI w A n X) (hL : RI w B m l) (hn : n ≤ 9223372036854775807) (hm : m ≤ 9223372036854775807) :
    Calls Tryz.prog 169 #[.agg #[.int .i64 N, .slice A n c], .slice B m d] w fun e w' => e = .returned (.bool (isPathL N X l)) ∧ Below w.heap.size w w' := by
  have hbk := Blk.new w 26 #[.int .i64 N, .slice A n c]
  rcases isVerts_cases N X l with hg | ⟨hg, k, Q, o, rfl, rfl, rfl, h, ho⟩
  · have H1 := Lib.hid hg
    have HR := Lib.hid (isPathL_no hg)
    rw [HR.out]
    clear hg
    go_enter Tryz.func169, Tryz.ntmps169
    go_wp2_with fail
    refine (l4Distinct_is (hX.up (by go_grown)) (hL.up (by go_grown)) hn hm H1.out).mono ?_
    rintro e w1 ⟨rfl, hb1⟩
    have hU1 : Up w w1 := Up.then_ (by go_grown) hb1
    go_wp2
    go_ret
    exact ⟨rfl, hU1⟩
  · obtain rfl : n = k := by rw [← hX.1, ints_len, h.len]
    have hol : o.length = m := by rw [← hL.1, ints_len]
    have H1 := Lib.hid hg
    have hl7 : m ≤ 7 := by rw [← hol]; exact Nat.le_trans ho.len h.le
    have h7 := h.le
    by_cases hfew : 0 < m
    rotate_left
    · have HR := Lib.hid (isPathL_few (N := (n : Int)) (X := ints Q) (l := ints o) (by rw [ints_len, hol]; exact hfew))
      rw [HR.out]
      obtain rfl : m = 0 := by omega
      clear hg
      go_enter Tryz.func169, Tryz.ntmps169
      go_wp2_with fail
      refine (l4Distinct_is (hX.up (by go_grown)) (hL.up (by go_grown)) hn hm H1.out).mono ?_
      rintro e w1 ⟨rfl, hb1⟩
      have hU1 : Up w w1 := Up.then_ (by go_grown) hb1
      go_wp2
      go_ret
      exact ⟨rfl, hU1⟩
    skip
    have Hat := Lib.hid fun k (hk : k < m) => ho.at_ (j := k) (by rw [hol]; exact hk)
    have HNo := Lib.hid fun k (hk : k < m) i hi e => joinedP_no2 (o := o) (J := jPath) h (i := i) (k := k) (by rw [hol]; exact hk) hi e
    have HYes := Lib.hid fun (hh : ∀ k, k < m → ∀ i, i < k → edge Q (nb o k) (nb o i) = jPath i k) => joinedP_yes2 (o := o) (J := jPath) h (by rw [hol]; exact hh)
    have HR := Lib.hid (show isPathL n (ints Q) (ints o) = joinedP Q o (jPath) by rw [isPathL_ok (by rw [ints_len, hol]; exact hfew), isJoined_ok hg])
    rw [HR.out]
    obtain ⟨aX, rfl, _, _⟩ := hX.addr h.pos
    clear hg HR hol
    go_enter Tryz.func169, Tryz.ntmps169
    go_wp2_with fail
    refine (l4Distinct_is (hX.up (by go_grown)) (hL.up (by go_grown)) hn hm H1.out).mono ?_
    rintro e w1 ⟨rfl, hb1⟩
    have hU1 : Up w w1 := Up.then_ (by go_grown) hb1
    replace hX := hX.up hU1
    replace hL := hL.up hU1
    have hbk1 := hbk.up hb1
    go_wp2_with fail
    skip
    go_loopw [5] (fun s wr => ∃ k : Nat, k ≤ m ∧ s = .int .i64 k ∧ Up w1 wr ∧ Hid (∀ z, z < k → ∀ i, i < z → edge Q (nb o z) (nb o i) = jPath i z)) (fun s _ => m - (intOf s).toNat)
    case atStart => exact ⟨0, Nat.zero_le _, rfl, Up.refl _, fun z hz => absurd hz (by omega)⟩
    case round =>
      obtain ⟨k, hk, rfl, hb, hall⟩ := hrel
      obtain ⟨wo, rfl⟩ : ∃ wo : World, wo = wr := ⟨_, rfl⟩
      by_cases hkn : k < m
      · go_wp2_with fail
        go_loopw [6] (fun s wr => ∃ i : Nat, i ≤ k ∧ s = .int .i64 i ∧ Up w1 wr ∧ Hid (∀ z, z < i → edge Q (nb o k) (nb o z) = jPath z k)) (fun s _ => k - (intOf s).toNat)
        case atStart => exact ⟨0, Nat.zero_le _, rfl, hb, fun z hz => absurd hz (by omega)⟩
        case round =>
          obtain ⟨i, hi, rfl, hb2, hall2⟩ := hrel
          obtain ⟨wi, rfl⟩ : ∃ wi : World, wi = wr := ⟨_, rfl⟩
          by_cases hik : i < k
          · have hil : i < m := by omega
            have hXi := hX.up hb2
            have hLi := hL.up hb2
            obtain ⟨ad, rfl, habs, _⟩ := hLi.addr (by omega)
            have hyi := (hbk1.up hb2).two
            have hli := (hbk1.up hb2).lt
            have hci := hLi.nbs hil
            have hck := hLi.nbs hkn
            have hvi := Hat.out i hil
            have hvk := Hat.out k hkn
            have hno := Lib.hid (HNo.out k hkn i hik)
            have HE := Lib.hid (show (nb Q (nb o k)).testBit (nb o i) = edge Q (nb o k) (nb o i) from rfl)
            have hA0 := Lib.hid (show edge Q (nb o k) (nb o i) = jPath i k → ∀ z, z < i + 1 → edge Q (nb o k) (nb o z) = jPath z k from fun e z hz => by
                rcases Nat.lt_succ_iff_lt_or_eq.1 hz with h' | rfl
                · exact hall2.out z h'
                · exact e)
            obtain ⟨e, he⟩ : ∃ e, e = edge Q (nb o k) (nb o i) := ⟨_, rfl⟩
            rw [← he] at HE hno hA0
            obtain ⟨x, hx⟩ : ∃ x, x = nb o i := ⟨_, rfl⟩
            rw [← hx] at hci hvi HE
            obtain ⟨y, hy⟩ : ∃ y, y = nb o k := ⟨_, rfl⟩
            rw [← hy] at hck hvk HE
            have hJ := Lib.hid (show jPath i k = (decide (k = i + 1)) from rfl)
            clear he hx hy hall2
            by_cases e1 : k = i + 1
            · have HJ := Lib.hid (show jPath i k = true by rw [hJ.out, decide_eq_true e1])
              have wk : IntKind.i64.wrap ((k : Int) - 1) = (i : Int) := by rw [IntKind.wrap_i64]; omega
              have wk2 : wrap64 ((k : Int) - 1) = (i : Int) := by rw [IntWalk.wrap64_in _ ⟨by omega, by omega⟩]; omega
              clear hJ e1
              cases e
              · have HF := Lib.hid (hno.out (by rw [HJ.out]; simp))
                clear hno hA0 HJ
                go_wp2
                have hV0 : Up wi wi.drew := (Up.refl _).drew
                refine wp_region_calm (S := (fun w' => Up wi w' ∧ (∀ b o, b < wi.heap.size → w'.cell? ⟨b, o, none⟩ = wi.cell? ⟨b, o, none⟩) ∧ w'.cell? (ad.add k) = some (.int .i64 (y : Nat)) ∧ w'.cell? (ad.add i) = some (.int .i64 (x : Nat)))) (by kernel_rfl) (by kernel_rfl) (by exact ⟨hV0, fun _ _ hb => hV0.cell hb, (hV0.cell (by first | assumption | (rw [block_of_add]; assumption))).trans (by assumption), (hV0.cell (by first | assumption | (rw [block_of_add]; assumption))).trans (by assumption)⟩) ?_
                repeat (first | (refine CalmSeq.cons undef (Calm.off (by rfl)) ?_; (try simp only [Act.put, List.setIfInBounds_toArray, List.set_cons_zero, List.set_cons_succ])) | (refine CalmSeq.cons ?_ (Calm.val (by rfl) ?_) ?_; rotate_left; (intro wC hSw; (try dsimp only at hSw); go_simp; done); (try simp only [Act.put, List.setIfInBounds_toArray, List.set_cons_zero, List.set_cons_succ])) | (refine CalmSeq.cons ?_ (Calm.val (by rfl) ?_) ?_; rotate_left; (intro wC hSw; (try dsimp only at hSw); go_simp; with_reducible rfl); (try simp only [Act.put, List.setIfInBounds_toArray, List.set_cons_zero, List.set_cons_succ])) | ((refine CalmSeq.cons ?_ (Calm.call (f := ?_) (args := ?_) (by rfl) ?_ (fun wC hSw => ?_)) ?_; rotate_left 3; (intro wC; go_simp; (refine ⟨?_, ?_⟩ <;> with_reducible rfl)); (go_at_call 69; (with_reducible refine (l2Edge_is (hXi.up hSw.1) h hvk hvi HE.out).mono ?_); rintro e wD ⟨rfl, hbD⟩; apply And.intro; (with_reducible rfl); (have hUD := Up.then_ hSw.1 hbD; exact ⟨hUD, fun _ _ hb => hUD.cell hb, (hUD.cell (by first | assumption | (rw [block_of_add]; assumption))).trans (by assumption), (hUD.cell (by first | assumption | (rw [block_of_add]; assumption))).trans (by assumption)⟩))); (try simp only [Act.put, List.setIfInBounds_toArray, List.set_cons_zero, List.set_cons_succ])))
                intro w3 hS3
                have hU3 : Up wi w3 := hS3.1
                clear hS3 hV0
                go_wp2
                go_ret
                rw [HF.out]
                exact ⟨rfl, Up.then_ hU1 (Up.then_ hb2 hU3)⟩
              · have HA := Lib.hid (hA0.out (by rw [HJ.out]))
                clear hno hA0 HJ
                go_wp2
                have hV0 : Up wi wi.drew := (Up.refl _).drew
                refine wp_region_calm (S := (fun w' => Up wi w' ∧ (∀ b o, b < wi.heap.size → w'.cell? ⟨b, o, none⟩ = wi.cell? ⟨b, o, none⟩) ∧ w'.cell? (ad.add k) = some (.int .i64 (y : Nat)) ∧ w'.cell? (ad.add i) = some (.int .i64 (x : Nat)))) (by kernel_rfl) (by kernel_rfl) (by exact ⟨hV0, fun _ _ hb => hV0.cell hb, (hV0.cell (by first | assumption | (rw [block_of_add]; assumption))).trans (by assumption), (hV0.cell (by first | assumption | (rw [block_of_add]; assumption))).trans (by assumption)⟩) ?_
                repeat (first | (refine CalmSeq.cons undef (Calm.off (by rfl)) ?_; (try simp only [Act.put, List.setIfInBounds_toArray, List.set_cons_zero, List.set_cons_succ])) | (refine CalmSeq.cons ?_ (Calm.val (by rfl) ?_) ?_; rotate_left; (intro wC hSw; (try dsimp only at hSw); go_simp; done); (try simp only [Act.put, List.setIfInBounds_toArray, List.set_cons_zero, List.set_cons_succ])) | (refine CalmSeq.cons ?_ (Calm.val (by rfl) ?_) ?_; rotate_left; (intro wC hSw; (try dsimp only at hSw); go_simp; with_reducible rfl); (try simp only [Act.put, List.setIfInBounds_toArray, List.set_cons_zero, List.set_cons_succ])) | ((refine CalmSeq.cons ?_ (Calm.call (f := ?_) (args := ?_) (by rfl) ?_ (fun wC hSw => ?_)) ?_; rotate_left 3; (intro wC; go_simp; (refine ⟨?_, ?_⟩ <;> with_reducible rfl)); (go_at_call 69; (with_reducible refine (l2Edge_is (hXi.up hSw.1) h hvk hvi HE.out).mono ?_); rintro e wD ⟨rfl, hbD⟩; apply And.intro; (with_reducible rfl); (have hUD := Up.then_ hSw.1 hbD; exact ⟨hUD, fun _ _ hb => hUD.cell hb, (hUD.cell (by first | assumption | (rw [block_of_add]; assumption))).trans (by assumption), (hUD.cell (by first | assumption | (rw [block_of_add]; assumption))).trans (by assumption)⟩))); (try simp only [Act.put, List.setIfInBounds_toArray, List.set_cons_zero, List.set_cons_succ])))
                intro w3 hS3
                have hU3 : Up wi w3 := hS3.1
                clear hS3 hV0
                go_wp2
                go_roundw
                case rel => exact ⟨i + 1, by omega, by go_num, Up.then_ hb2 hU3, HA.out⟩
                case measure => simp [intOf]; omega
            · have HJ := Lib.hid (show jPath i k = false by rw [hJ.out, decide_eq_false e1])
              obtain ⟨k1, hk1⟩ : ∃ k1, k1 = k - 1 := ⟨_, rfl⟩
              have wk : IntKind.i64.wrap ((k : Int) - 1) = (k1 : Int) := by rw [IntKind.wrap_i64]; omega
              have wk2 : wrap64 ((k : Int) - 1) = (k1 : Int) := by rw [IntWalk.wrap64_in _ ⟨by omega, by omega⟩]; omega
              have b1 : ((i : Int) == (k1 : Int)) = false := by rw [beq_eq_false_iff_ne]; omega
              clear hJ e1 hk1
              cases e
              · have HA := Lib.hid (hA0.out (by rw [HJ.out]))
                clear hno hA0 HJ
                go_wp2
                have hV0 : Up wi wi.drew := (Up.refl _).drew
                refine wp_region_calm (S := (fun w' => Up wi w' ∧ (∀ b o, b < wi.heap.size → w'.cell? ⟨b, o, none⟩ = wi.cell? ⟨b, o, none⟩) ∧ w'.cell? (ad.add k) = some (.int .i64 (y : Nat)) ∧ w'.cell? (ad.add i) = some (.int .i64 (x : Nat)))) (by kernel_rfl) (by kernel_rfl) (by exact ⟨hV0, fun _ _ hb => hV0.cell hb, (hV0.cell (by first | assumption | (rw [block_of_add]; assumption))).trans (by assumption), (hV0.cell (by first | assumption | (rw [block_of_add]; assumption))).trans (by assumption)⟩) ?_
                repeat (first | (refine CalmSeq.cons undef (Calm.off (by rfl)) ?_; (try simp only [Act.put, List.setIfInBounds_toArray, List.set_cons_zero, List.set_cons_succ])) | (refine CalmSeq.cons ?_ (Calm.val (by rfl) ?_) ?_; rotate_left; (intro wC hSw; (try dsimp only at hSw); go_simp; done); (try simp only [Act.put, List.setIfInBounds_toArray, List.set_cons_zero, List.set_cons_succ])) | (refine CalmSeq.cons ?_ (Calm.val (by rfl) ?_) ?_; rotate_left; (intro wC hSw; (try dsimp only at hSw); go_simp; with_reducible rfl); (try simp only [Act.put, List.setIfInBounds_toArray, List.set_cons_zero, List.set_cons_succ])) | ((refine CalmSeq.cons ?_ (Calm.call (f := ?_) (args := ?_) (by rfl) ?_ (fun wC hSw => ?_)) ?_; rotate_left 3; (intro wC; go_simp; (refine ⟨?_, ?_⟩ <;> with_reducible rfl)); (go_at_call 69; (with_reducible refine (l2Edge_is (hXi.up hSw.1) h hvk hvi HE.out).mono ?_); rintro e wD ⟨rfl, hbD⟩; apply And.intro; (with_reducible rfl); (have hUD := Up.then_ hSw.1 hbD; exact ⟨hUD, fun _ _ hb => hUD.cell hb, (hUD.cell (by first | assumption | (rw [block_of_add]; assumption))).trans (by assumption), (hUD.cell (by first | assumption | (rw [block_of_add]; assumption))).trans (by assumption)⟩))); (try simp only [Act.put, List.setIfInBounds_toArray, List.set_cons_zero, List.set_cons_succ])))
                intro w3 hS3
                have hU3 : Up wi w3 := hS3.1
                clear hS3 hV0
                go_wp2
                go_roundw
                case rel => exact ⟨i + 1, by omega, by go_num, Up.then_ hb2 hU3, HA.out⟩
                case measure => simp [intOf]; omega
              · have HF := Lib.hid (hno.out (by rw [HJ.out]; simp))
                clear hno hA0 HJ
                go_wp2
                have hV0 : Up wi wi.drew := (Up.refl _).drew
                refine wp_region_calm (S := (fun w' => Up wi w' ∧ (∀ b o, b < wi.heap.size → w'.cell? ⟨b, o, none⟩ = wi.cell? ⟨b, o, none⟩) ∧ w'.cell? (ad.add k) = some (.int .i64 (y : Nat)) ∧ w'.cell? (ad.add i) = some (.int .i64 (x : Nat)))) (by kernel_rfl) (by kernel_rfl) (by exact ⟨hV0, fun _ _ hb => hV0.cell hb, (hV0.cell (by first | assumption | (rw [block_of_add]; assumption))).trans (by assumption), (hV0.cell (by first | assumption | (rw [block_of_add]; assumption))).trans (by assumption)⟩) ?_
                repeat (first | (refine CalmSeq.cons undef (Calm.off (by rfl)) ?_; (try simp only [Act.put, List.setIfInBounds_toArray, List.set_cons_zero, List.set_cons_succ])) | (refine CalmSeq.cons ?_ (Calm.val (by rfl) ?_) ?_; rotate_left; (intro wC hSw; (try dsimp only at hSw); go_simp; done); (try simp only [Act.put, List.setIfInBounds_toArray, List.set_cons_zero, List.set_cons_succ])) | (refine CalmSeq.cons ?_ (Calm.val (by rfl) ?_) ?_; rotate_left; (intro wC hSw; (try dsimp only at hSw); go_simp; with_reducible rfl); (try simp only [Act.put, List.setIfInBounds_toArray, List.set_cons_zero, List.set_cons_succ])) | ((refine CalmSeq.cons ?_ (Calm.call (f := ?_) (args := ?_) (by rfl) ?_ (fun wC hSw => ?_)) ?_; rotate_left 3; (intro wC; go_simp; (refine ⟨?_, ?_⟩ <;> with_reducible rfl)); (go_at_call 69; (with_reducible refine (l2Edge_is (hXi.up hSw.1) h hvk hvi HE.out).mono ?_); rintro e wD ⟨rfl, hbD⟩; apply And.intro; (with_reducible rfl); (have hUD := Up.then_ hSw.1 hbD; exact ⟨hUD, fun _ _ hb => hUD.cell hb, (hUD.cell (by first | assumption | (rw [block_of_add]; assumption))).trans (by assumption), (hUD.cell (by first | assumption | (rw [block_of_add]; assumption))).trans (by assumption)⟩))); (try simp only [Act.put, List.setIfInBounds_toArray, List.set_cons_zero, List.set_cons_succ])))
                intro w3 hS3
                have hU3 : Up wi w3 := hS3.1
                clear hS3 hV0
                go_wp2
                go_ret
                rw [HF.out]
                exact ⟨rfl, Up.then_ hU1 (Up.then_ hb2 hU3)⟩
          · obtain rfl : i = k := by omega
            have HA := Lib.hid (show ∀ z, z < i + 1 → ∀ y, y < z → edge Q (nb o z) (nb o y) = jPath y z from fun z hz => by
              rcases Nat.lt_succ_iff_lt_or_eq.1 hz with h' | rfl
              · exact hall.out z h'
              · exact hall2.out)
            go_wp2
            go_roundw
            case rel => exact ⟨i + 1, by omega, by go_num, hb2, HA.out⟩
            case measure => simp [intOf]; omega
      · obtain rfl : k = m := by omega
        have HY := Lib.hid (HYes.out hall.out)
        go_wp2
        go_ret
        rw [HY.out]
        exact ⟨rfl, Up.then_ hU1 hb⟩
set_option maxRecDepth 100000 in
set_option maxHeartbeats 4000000 in
theorem specIsHole_any (N : Int) (A B : Option Addr) (n c m d : Nat) (X l : List Int) (w : World) (hX : RI w A n X) (hL : RI w B m l) (hn : n ≤ 9223372036854775807) (hm : m ≤ 9223372036854775807) :
    Calls Tryz.prog 123 #[.agg #[.int .i64 N, .slice A n c], .slice B m d] w fun e w' => e = .returned (.bool (isHoleL N X l)) ∧ Below w.heap.size w w' := by
  have hbk := Blk.new w 26 #[.int .i64 N, .slice A n c]
  rcases isVerts_cases N X l with hg | ⟨hg, k, Q, o, rfl, rfl, rfl, h, ho⟩
  · have H1 := Lib.hid hg
    have HR := Lib.hid (isHoleL_no hg)
    rw [HR.out]
    clear hg
    go_enter Tryz.func123, Tryz.ntmps123
    go_wp2_with fail
    refine (l4Distinct_is (hX.up (by go_grown)) (hL.up (by go_grown)) hn hm H1.out).mono ?_
    rintro e w1 ⟨rfl, hb1⟩
    have hU1 : Up w w1 := Up.then_ (by go_grown) hb1
    go_wp2
    go_ret
    exact ⟨rfl, hU1⟩
  · obtain rfl : n = k := by rw [← hX.1, ints_len, h.len]
    have hol : o.length = m := by rw [← hL.1, ints_len]
    have H1 := Lib.hid hg
    have hl7 : m ≤ 7 := by rw [← hol]; exact Nat.le_trans ho.len h.le
    have h7 := h.le
    by_cases hfew : 4 ≤ m
    rotate_left
    · have HR := Lib.hid (isHoleL_few (N := (n : Int)) (X := ints Q) (l := ints o) (by rw [ints_len, hol]; exact hfew))
      rw [HR.out]
      have d4 : decide ((m : Int) < 4) = true := decide_eq_true (by omega)
      clear hg
      go_enter Tryz.func123, Tryz.ntmps123
      go_wp2_with fail
      refine (l4Distinct_is (hX.up (by go_grown)) (hL.up (by go_grown)) hn hm H1.out).mono ?_
      rintro e w1 ⟨rfl, hb1⟩
      have hU1 : Up w w1 := Up.then_ (by go_grown) hb1
      go_wp2
      go_ret
      exact ⟨rfl, hU1⟩
    skip
    have Hat := Lib.hid fun k (hk : k < m) => ho.at_ (j := k) (by rw [hol]; exact hk)
    have HNo := Lib.hid fun k (hk : k < m) i hi e => joinedP_no2 (o := o) (J := (jHole m)) h (i := i) (k := k) (by rw [hol]; exact hk) hi e
    have HYes := Lib.hid fun (hh : ∀ k, k < m → ∀ i, i < k → edge Q (nb o k) (nb o i) = (jHole m) i k) => joinedP_yes2 (o := o) (J := (jHole m)) h (by rw [hol]; exact hh)
    have d4 : decide ((m : Int) < 4) = false := decide_eq_false (by omega)
    have HR := Lib.hid (show isHoleL n (ints Q) (ints o) = joinedP Q o ((jHole m)) by rw [isHoleL_ok (by rw [ints_len, hol]; exact hfew), isJoined_ok hg, ints_len, hol])
    rw [HR.out]
    obtain ⟨aX, rfl, _, _⟩ := hX.addr h.pos
    clear hg HR hol
    go_enter Tryz.func123, Tryz.ntmps123
    go_wp2_with fail
    refine (l4Distinct_is (hX.up (by go_grown)) (hL.up (by go_grown)) hn hm H1.out).mono ?_
    rintro e w1 ⟨rfl, hb1⟩
    have hU1 : Up w w1 := Up.then_ (by go_grown) hb1
    replace hX := hX.up hU1
    replace hL := hL.up hU1
    have hbk1 := hbk.up hb1
    go_wp2_with fail
    skip
    go_loopw [5] (fun s wr => ∃ k : Nat, k ≤ m ∧ s = .int .i64 k ∧ Up w1 wr ∧ Hid (∀ z, z < k → ∀ i, i < z → edge Q (nb o z) (nb o i) = (jHole m) i z)) (fun s _ => m - (intOf s).toNat)
    case atStart => exact ⟨0, Nat.zero_le _, rfl, Up.refl _, fun z hz => absurd hz (by omega)⟩
    case round =>
      obtain ⟨k, hk, rfl, hb, hall⟩ := hrel
      obtain ⟨wo, rfl⟩ : ∃ wo : World, wo = wr := ⟨_, rfl⟩
      by_cases hkn : k < m
      · go_wp2_with fail
        go_loopw [6] (fun s wr => ∃ i : Nat, i ≤ k ∧ s = .int .i64 i ∧ Up w1 wr ∧ Hid (∀ z, z < i → edge Q (nb o k) (nb o z) = (jHole m) z k)) (fun s _ => k - (intOf s).toNat)
        case atStart => exact ⟨0, Nat.zero_le _, rfl, hb, fun z hz => absurd hz (by omega)⟩
        case round =>
          obtain ⟨i, hi, rfl, hb2, hall2⟩ := hrel
          obtain ⟨wi, rfl⟩ : ∃ wi : World, wi = wr := ⟨_, rfl⟩
          by_cases hik : i < k
          · have hil : i < m := by omega
            have hXi := hX.up hb2
            have hLi := hL.up hb2
            obtain ⟨ad, rfl, habs, _⟩ := hLi.addr (by omega)
            have hyi := (hbk1.up hb2).two
            have hli := (hbk1.up hb2).lt
            have hci := hLi.nbs hil
            have hck := hLi.nbs hkn
            have hvi := Hat.out i hil
            have hvk := Hat.out k hkn
            have hno := Lib.hid (HNo.out k hkn i hik)
            have HE := Lib.hid (show (nb Q (nb o k)).testBit (nb o i) = edge Q (nb o k) (nb o i) from rfl)
            have hA0 := Lib.hid (show edge Q (nb o k) (nb o i) = (jHole m) i k → ∀ z, z < i + 1 → edge Q (nb o k) (nb o z) = (jHole m) z k from fun e z hz => by
                rcases Nat.lt_succ_iff_lt_or_eq.1 hz with h' | rfl
                · exact hall2.out z h'
                · exact e)
            obtain ⟨e, he⟩ : ∃ e, e = edge Q (nb o k) (nb o i) := ⟨_, rfl⟩
            rw [← he] at HE hno hA0
            obtain ⟨x, hx⟩ : ∃ x, x = nb o i := ⟨_, rfl⟩
            rw [← hx] at hci hvi HE
            obtain ⟨y, hy⟩ : ∃ y, y = nb o k := ⟨_, rfl⟩
            rw [← hy] at hck hvk HE
            have hJ := Lib.hid (show (jHole m) i k = (decide (k = i + 1) || (decide (i = 0) && decide (k + 1 = m))) from rfl)
            clear he hx hy hall2
            by_cases e1 : k = i + 1
            · have HJ := Lib.hid (show jHole m i k = true by rw [hJ.out, decide_eq_true e1]; rfl)
              have wk : IntKind.i64.wrap ((k : Int) - 1) = (i : Int) := by rw [IntKind.wrap_i64]; omega
              have wk2 : wrap64 ((k : Int) - 1) = (i : Int) := by rw [IntWalk.wrap64_in _ ⟨by omega, by omega⟩]; omega
              clear hJ e1
              cases e
              · have HF := Lib.hid (hno.out (by rw [HJ.out]; simp))
                clear hno hA0 HJ
                go_wp2
                have hV0 : Up wi wi.drew := (Up.refl _).drew
                refine wp_region_calm (S := (fun w' => Up wi w' ∧ (∀ b o, b < wi.heap.size → w'.cell? ⟨b, o, none⟩ = wi.cell? ⟨b, o, none⟩) ∧ w'.cell? (ad.add k) = some (.int .i64 (y : Nat)) ∧ w'.cell? (ad.add i) = some (.int .i64 (x : Nat)))) (by kernel_rfl) (by kernel_rfl) (by exact ⟨hV0, fun _ _ hb => hV0.cell hb, (hV0.cell (by first | assumption | (rw [block_of_add]; assumption))).trans (by assumption), (hV0.cell (by first | assumption | (rw [block_of_add]; assumption))).trans (by assumption)⟩) ?_
                repeat (first | (refine CalmSeq.cons undef (Calm.off (by rfl)) ?_; (try simp only [Act.put, List.setIfInBounds_toArray, List.set_cons_zero, List.set_cons_succ])) | (refine CalmSeq.cons ?_ (Calm.val (by rfl) ?_) ?_; rotate_left; (intro wC hSw; (try dsimp only at hSw); go_simp; done); (try simp only [Act.put, List.setIfInBounds_toArray, List.set_cons_zero, List.set_cons_succ])) | (refine CalmSeq.cons ?_ (Calm.val (by rfl) ?_) ?_; rotate_left; (intro wC hSw; (try dsimp only at hSw); go_simp; with_reducible rfl); (try simp only [Act.put, List.setIfInBounds_toArray, List.set_cons_zero, List.set_cons_succ])) | ((refine CalmSeq.cons ?_ (Calm.call (f := ?_) (args := ?_) (by rfl) ?_ (fun wC hSw => ?_)) ?_; rotate_left 3; (intro wC; go_simp; (refine ⟨?_, ?_⟩ <;> with_reducible rfl)); (go_at_call 69; (with_reducible refine (l2Edge_is (hXi.up hSw.1) h hvk hvi HE.out).mono ?_); rintro e wD ⟨rfl, hbD⟩; apply And.intro; (with_reducible rfl); (have hUD := Up.then_ hSw.1 hbD; exact ⟨hUD, fun _ _ hb => hUD.cell hb, (hUD.cell (by first | assumption | (rw [block_of_add]; assumption))).trans (by assumption), (hUD.cell (by first | assumption | (rw [block_of_add]; assumption))).trans (by assumption)⟩))); (try simp only [Act.put, List.setIfInBounds_toArray, List.set_cons_zero, List.set_cons_succ])))
                intro w3 hS3
                have hU3 : Up wi w3 := hS3.1
                clear hS3 hV0
                go_wp2
                go_ret
                rw [HF.out]
                exact ⟨rfl, Up.then_ hU1 (Up.then_ hb2 hU3)⟩
              · have HA := Lib.hid (hA0.out (by rw [HJ.out]))
                clear hno hA0 HJ
                go_wp2
                have hV0 : Up wi wi.drew := (Up.refl _).drew
                refine wp_region_calm (S := (fun w' => Up wi w' ∧ (∀ b o, b < wi.heap.size → w'.cell? ⟨b, o, none⟩ = wi.cell? ⟨b, o, none⟩) ∧ w'.cell? (ad.add k) = some (.int .i64 (y : Nat)) ∧ w'.cell? (ad.add i) = some (.int .i64 (x : Nat)))) (by kernel_rfl) (by kernel_rfl) (by exact ⟨hV0, fun _ _ hb => hV0.cell hb, (hV0.cell (by first | assumption | (rw [block_of_add]; assumption))).trans (by assumption), (hV0.cell (by first | assumption | (rw [block_of_add]; assumption))).trans (by assumption)⟩) ?_
                repeat (first | (refine CalmSeq.cons undef (Calm.off (by rfl)) ?_; (try simp only [Act.put, List.setIfInBounds_toArray, List.set_cons_zero, List.set_cons_succ])) | (refine CalmSeq.cons ?_ (Calm.val (by rfl) ?_) ?_; rotate_left; (intro wC hSw; (try dsimp only at hSw); go_simp; done); (try simp only [Act.put, List.setIfInBounds_toArray, List.set_cons_zero, List.set_cons_succ])) | (refine CalmSeq.cons ?_ (Calm.val (by rfl) ?_) ?_; rotate_left; (intro wC hSw; (try dsimp only at hSw); go_simp; with_reducible rfl); (try simp only [Act.put, List.setIfInBounds_toArray, List.set_cons_zero, List.set_cons_succ])) | ((refine CalmSeq.cons ?_ (Calm.call (f := ?_) (args := ?_) (by rfl) ?_ (fun wC hSw => ?_)) ?_; rotate_left 3; (intro wC; go_simp; (refine ⟨?_, ?_⟩ <;> with_reducible rfl)); (go_at_call 69; (with_reducible refine (l2Edge_is (hXi.up hSw.1) h hvk hvi HE.out).mono ?_); rintro e wD ⟨rfl, hbD⟩; apply And.intro; (with_reducible rfl); (have hUD := Up.then_ hSw.1 hbD; exact ⟨hUD, fun _ _ hb => hUD.cell hb, (hUD.cell (by first | assumption | (rw [block_of_add]; assumption))).trans (by assumption), (hUD.cell (by first | assumption | (rw [block_of_add]; assumption))).trans (by assumption)⟩))); (try simp only [Act.put, List.setIfInBounds_toArray, List.set_cons_zero, List.set_cons_succ])))
                intro w3 hS3
                have hU3 : Up wi w3 := hS3.1
                clear hS3 hV0
                go_wp2
                go_roundw
                case rel => exact ⟨i + 1, by omega, by go_num, Up.then_ hb2 hU3, HA.out⟩
                case measure => simp [intOf]; omega
            obtain ⟨k1, hk1⟩ : ∃ k1, k1 = k - 1 := ⟨_, rfl⟩
            have wk : IntKind.i64.wrap ((k : Int) - 1) = (k1 : Int) := by rw [IntKind.wrap_i64]; omega
            have wk2 : wrap64 ((k : Int) - 1) = (k1 : Int) := by rw [IntWalk.wrap64_in _ ⟨by omega, by omega⟩]; omega
            have b1 : ((i : Int) == (k1 : Int)) = false := by rw [beq_eq_false_iff_ne]; omega
            by_cases e2 : i = 0
            rotate_left
            · have HJ := Lib.hid (show jHole m i k = false by rw [hJ.out, decide_eq_false e1, decide_eq_false e2]; rfl)
              have b2 : ((i : Int) == 0) = false := by rw [beq_eq_false_iff_ne]; omega
              clear hJ e1 e2 hk1
              cases e
              · have HA := Lib.hid (hA0.out (by rw [HJ.out]))
                clear hno hA0 HJ
                go_wp2
                have hV0 : Up wi wi.drew := (Up.refl _).drew
                refine wp_region_calm (S := (fun w' => Up wi w' ∧ (∀ b o, b < wi.heap.size → w'.cell? ⟨b, o, none⟩ = wi.cell? ⟨b, o, none⟩) ∧ w'.cell? (ad.add k) = some (.int .i64 (y : Nat)) ∧ w'.cell? (ad.add i) = some (.int .i64 (x : Nat)))) (by kernel_rfl) (by kernel_rfl) (by exact ⟨hV0, fun _ _ hb => hV0.cell hb, (hV0.cell (by first | assumption | (rw [block_of_add]; assumption))).trans (by assumption), (hV0.cell (by first | assumption | (rw [block_of_add]; assumption))).trans (by assumption)⟩) ?_
                repeat (first | (refine CalmSeq.cons undef (Calm.off (by rfl)) ?_; (try simp only [Act.put, List.setIfInBounds_toArray, List.set_cons_zero, List.set_cons_succ])) | (refine CalmSeq.cons ?_ (Calm.val (by rfl) ?_) ?_; rotate_left; (intro wC hSw; (try dsimp only at hSw); go_simp; done); (try simp only [Act.put, List.setIfInBounds_toArray, List.set_cons_zero, List.set_cons_succ])) | (refine CalmSeq.cons ?_ (Calm.val (by rfl) ?_) ?_; rotate_left; (intro wC hSw; (try dsimp only at hSw); go_simp; with_reducible rfl); (try simp only [Act.put, List.setIfInBounds_toArray, List.set_cons_zero, List.set_cons_succ])) | ((refine CalmSeq.cons ?_ (Calm.call (f := ?_) (args := ?_) (by rfl) ?_ (fun wC hSw => ?_)) ?_; rotate_left 3; (intro wC; go_simp; (refine ⟨?_, ?_⟩ <;> with_reducible rfl)); (go_at_call 69; (with_reducible refine (l2Edge_is (hXi.up hSw.1) h hvk hvi HE.out).mono ?_); rintro e wD ⟨rfl, hbD⟩; apply And.intro; (with_reducible rfl); (have hUD := Up.then_ hSw.1 hbD; exact ⟨hUD, fun _ _ hb => hUD.cell hb, (hUD.cell (by first | assumption | (rw [block_of_add]; assumption))).trans (by assumption), (hUD.cell (by first | assumption | (rw [block_of_add]; assumption))).trans (by assumption)⟩))); (try simp only [Act.put, List.setIfInBounds_toArray, List.set_cons_zero, List.set_cons_succ])))
                intro w3 hS3
                have hU3 : Up wi w3 := hS3.1
                clear hS3 hV0
                go_wp2
                go_roundw
                case rel => exact ⟨i + 1, by omega, by go_num, Up.then_ hb2 hU3, HA.out⟩
                case measure => simp [intOf]; omega
              · have HF := Lib.hid (hno.out (by rw [HJ.out]; simp))
                clear hno hA0 HJ
                go_wp2
                have hV0 : Up wi wi.drew := (Up.refl _).drew
                refine wp_region_calm (S := (fun w' => Up wi w' ∧ (∀ b o, b < wi.heap.size → w'.cell? ⟨b, o, none⟩ = wi.cell? ⟨b, o, none⟩) ∧ w'.cell? (ad.add k) = some (.int .i64 (y : Nat)) ∧ w'.cell? (ad.add i) = some (.int .i64 (x : Nat)))) (by kernel_rfl) (by kernel_rfl) (by exact ⟨hV0, fun _ _ hb => hV0.cell hb, (hV0.cell (by first | assumption | (rw [block_of_add]; assumption))).trans (by assumption), (hV0.cell (by first | assumption | (rw [block_of_add]; assumption))).trans (by assumption)⟩) ?_
                repeat (first | (refine CalmSeq.cons undef (Calm.off (by rfl)) ?_; (try simp only [Act.put, List.setIfInBounds_toArray, List.set_cons_zero, List.set_cons_succ])) | (refine CalmSeq.cons ?_ (Calm.val (by rfl) ?_) ?_; rotate_left; (intro wC hSw; (try dsimp only at hSw); go_simp; done); (try simp only [Act.put, List.setIfInBounds_toArray, List.set_cons_zero, List.set_cons_succ])) | (refine CalmSeq.cons ?_ (Calm.val (by rfl) ?_) ?_; rotate_left; (intro wC hSw; (try dsimp only at hSw); go_simp; with_reducible rfl); (try simp only [Act.put, List.setIfInBounds_toArray, List.set_cons_zero, List.set_cons_succ])) | ((refine CalmSeq.cons ?_ (Calm.call (f := ?_) (args := ?_) (by rfl) ?_ (fun wC hSw => ?_)) ?_; rotate_left 3; (intro wC; go_simp; (refine ⟨?_, ?_⟩ <;> with_reducible rfl)); (go_at_call 69; (with_reducible refine (l2Edge_is (hXi.up hSw.1) h hvk hvi HE.out).mono ?_); rintro e wD ⟨rfl, hbD⟩; apply And.intro; (with_reducible rfl); (have hUD := Up.then_ hSw.1 hbD; exact ⟨hUD, fun _ _ hb => hUD.cell hb, (hUD.cell (by first | assumption | (rw [block_of_add]; assumption))).trans (by assumption), (hUD.cell (by first | assumption | (rw [block_of_add]; assumption))).trans (by assumption)⟩))); (try simp only [Act.put, List.setIfInBounds_toArray, List.set_cons_zero, List.set_cons_succ])))
                intro w3 hS3
                have hU3 : Up wi w3 := hS3.1
                clear hS3 hV0
                go_wp2
                go_ret
                rw [HF.out]
                exact ⟨rfl, Up.then_ hU1 (Up.then_ hb2 hU3)⟩
            subst e2
            have hci0 : wi.cell? ad = some (.int .i64 (x : Nat)) := by have := hci; rwa [add_zero_] at this
            have b10 : ((0 : Int) == (k1 : Int)) = false := by rw [beq_eq_false_iff_ne]; omega
            by_cases e3 : k + 1 = m
            · have HJ := Lib.hid (show jHole m 0 k = true by rw [hJ.out, decide_eq_false e1, decide_eq_true e3]; rfl)
              have wm : IntKind.i64.wrap ((m : Int) - 1) = (k : Int) := by rw [IntKind.wrap_i64]; omega
              have wm2 : wrap64 ((m : Int) - 1) = (k : Int) := by rw [IntWalk.wrap64_in _ ⟨by omega, by omega⟩]; omega
              clear hJ e1 e3 hk1 b1
              cases e
              · have HF := Lib.hid (hno.out (by rw [HJ.out]; simp))
                clear hno hA0 HJ
                go_wp2
                have hV0 : Up wi wi.drew := (Up.refl _).drew
                refine wp_region_calm (S := (fun w' => Up wi w' ∧ (∀ b o, b < wi.heap.size → w'.cell? ⟨b, o, none⟩ = wi.cell? ⟨b, o, none⟩) ∧ w'.cell? (ad.add k) = some (.int .i64 (y : Nat)) ∧ w'.cell? (ad.add 0) = some (.int .i64 (x : Nat)) ∧ w'.cell? (ad) = some (.int .i64 (x : Nat)))) (by kernel_rfl) (by kernel_rfl) (by exact ⟨hV0, fun _ _ hb => hV0.cell hb, (hV0.cell (by first | assumption | (rw [block_of_add]; assumption))).trans (by assumption), (hV0.cell (by first | assumption | (rw [block_of_add]; assumption))).trans (by assumption), (hV0.cell (by first | assumption | (rw [block_of_add]; assumption))).trans (by assumption)⟩) ?_
                repeat (first | (refine CalmSeq.cons undef (Calm.off (by rfl)) ?_; (try simp only [Act.put, List.setIfInBounds_toArray, List.set_cons_zero, List.set_cons_succ])) | (refine CalmSeq.cons ?_ (Calm.val (by rfl) ?_) ?_; rotate_left; (intro wC hSw; (try dsimp only at hSw); go_simp; done); (try simp only [Act.put, List.setIfInBounds_toArray, List.set_cons_zero, List.set_cons_succ])) | (refine CalmSeq.cons ?_ (Calm.val (by rfl) ?_) ?_; rotate_left; (intro wC hSw; (try dsimp only at hSw); go_simp; with_reducible rfl); (try simp only [Act.put, List.setIfInBounds_toArray, List.set_cons_zero, List.set_cons_succ])) | ((refine CalmSeq.cons ?_ (Calm.call (f := ?_) (args := ?_) (by rfl) ?_ (fun wC hSw => ?_)) ?_; rotate_left 3; (intro wC; go_simp; (refine ⟨?_, ?_⟩ <;> with_reducible rfl)); (go_at_call 69; (with_reducible refine (l2Edge_is (hXi.up hSw.1) h hvk hvi HE.out).mono ?_); rintro e wD ⟨rfl, hbD⟩; apply And.intro; (with_reducible rfl); (have hUD := Up.then_ hSw.1 hbD; exact ⟨hUD, fun _ _ hb => hUD.cell hb, (hUD.cell (by first | assumption | (rw [block_of_add]; assumption))).trans (by assumption), (hUD.cell (by first | assumption | (rw [block_of_add]; assumption))).trans (by assumption), (hUD.cell (by first | assumption | (rw [block_of_add]; assumption))).trans (by assumption)⟩))); (try simp only [Act.put, List.setIfInBounds_toArray, List.set_cons_zero, List.set_cons_succ])))
                intro w3 hS3
                have hU3 : Up wi w3 := hS3.1
                clear hS3 hV0
                go_wp2
                go_ret
                rw [HF.out]
                exact ⟨rfl, Up.then_ hU1 (Up.then_ hb2 hU3)⟩
              · have HA := Lib.hid (hA0.out (by rw [HJ.out]))
                clear hno hA0 HJ
                go_wp2
                have hV0 : Up wi wi.drew := (Up.refl _).drew
                refine wp_region_calm (S := (fun w' => Up wi w' ∧ (∀ b o, b < wi.heap.size → w'.cell? ⟨b, o, none⟩ = wi.cell? ⟨b, o, none⟩) ∧ w'.cell? (ad.add k) = some (.int .i64 (y : Nat)) ∧ w'.cell? (ad.add 0) = some (.int .i64 (x : Nat)) ∧ w'.cell? (ad) = some (.int .i64 (x : Nat)))) (by kernel_rfl) (by kernel_rfl) (by exact ⟨hV0, fun _ _ hb => hV0.cell hb, (hV0.cell (by first | assumption | (rw [block_of_add]; assumption))).trans (by assumption), (hV0.cell (by first | assumption | (rw [block_of_add]; assumption))).trans (by assumption), (hV0.cell (by first | assumption | (rw [block_of_add]; assumption))).trans (by assumption)⟩) ?_
                repeat (first | (refine CalmSeq.cons undef (Calm.off (by rfl)) ?_; (try simp only [Act.put, List.setIfInBounds_toArray, List.set_cons_zero, List.set_cons_succ])) | (refine CalmSeq.cons ?_ (Calm.val (by rfl) ?_) ?_; rotate_left; (intro wC hSw; (try dsimp only at hSw); go_simp; done); (try simp only [Act.put, List.setIfInBounds_toArray, List.set_cons_zero, List.set_cons_succ])) | (refine CalmSeq.cons ?_ (Calm.val (by rfl) ?_) ?_; rotate_left; (intro wC hSw; (try dsimp only at hSw); go_simp; with_reducible rfl); (try simp only [Act.put, List.setIfInBounds_toArray, List.set_cons_zero, List.set_cons_succ])) | ((refine CalmSeq.cons ?_ (Calm.call (f := ?_) (args := ?_) (by rfl) ?_ (fun wC hSw => ?_)) ?_; rotate_left 3; (intro wC; go_simp; (refine ⟨?_, ?_⟩ <;> with_reducible rfl)); (go_at_call 69; (with_reducible refine (l2Edge_is (hXi.up hSw.1) h hvk hvi HE.out).mono ?_); rintro e wD ⟨rfl, hbD⟩; apply And.intro; (with_reducible rfl); (have hUD := Up.then_ hSw.1 hbD; exact ⟨hUD, fun _ _ hb => hUD.cell hb, (hUD.cell (by first | assumption | (rw [block_of_add]; assumption))).trans (by assumption), (hUD.cell (by first | assumption | (rw [block_of_add]; assumption))).trans (by assumption), (hUD.cell (by first | assumption | (rw [block_of_add]; assumption))).trans (by assumption)⟩))); (try simp only [Act.put, List.setIfInBounds_toArray, List.set_cons_zero, List.set_cons_succ])))
                intro w3 hS3
                have hU3 : Up wi w3 := hS3.1
                clear hS3 hV0
                go_wp2
                go_roundw
                case rel => exact ⟨0 + 1, by omega, by go_num, Up.then_ hb2 hU3, HA.out⟩
                case measure => simp [intOf]; omega
            · have HJ := Lib.hid (show jHole m 0 k = false by rw [hJ.out, decide_eq_false e1, decide_eq_false e3]; rfl)
              obtain ⟨m1, hm1⟩ : ∃ m1, m1 = m - 1 := ⟨_, rfl⟩
              have wm : IntKind.i64.wrap ((m : Int) - 1) = (m1 : Int) := by rw [IntKind.wrap_i64]; omega
              have wm2 : wrap64 ((m : Int) - 1) = (m1 : Int) := by rw [IntWalk.wrap64_in _ ⟨by omega, by omega⟩]; omega
              have b3 : ((k : Int) == (m1 : Int)) = false := by rw [beq_eq_false_iff_ne]; omega
              clear hJ e1 e3 hk1 b1 hm1
              cases e
              · have HA := Lib.hid (hA0.out (by rw [HJ.out]))
                clear hno hA0 HJ
                go_wp2
                have hV0 : Up wi wi.drew := (Up.refl _).drew
                refine wp_region_calm (S := (fun w' => Up wi w' ∧ (∀ b o, b < wi.heap.size → w'.cell? ⟨b, o, none⟩ = wi.cell? ⟨b, o, none⟩) ∧ w'.cell? (ad.add k) = some (.int .i64 (y : Nat)) ∧ w'.cell? (ad.add 0) = some (.int .i64 (x : Nat)) ∧ w'.cell? (ad) = some (.int .i64 (x : Nat)))) (by kernel_rfl) (by kernel_rfl) (by exact ⟨hV0, fun _ _ hb => hV0.cell hb, (hV0.cell (by first | assumption | (rw [block_of_add]; assumption))).trans (by assumption), (hV0.cell (by first | assumption | (rw [block_of_add]; assumption))).trans (by assumption), (hV0.cell (by first | assumption | (rw [block_of_add]; assumption))).trans (by assumption)⟩) ?_
                repeat (first | (refine CalmSeq.cons undef (Calm.off (by rfl)) ?_; (try simp only [Act.put, List.setIfInBounds_toArray, List.set_cons_zero, List.set_cons_succ])) | (refine CalmSeq.cons ?_ (Calm.val (by rfl) ?_) ?_; rotate_left; (intro wC hSw; (try dsimp only at hSw); go_simp; done); (try simp only [Act.put, List.setIfInBounds_toArray, List.set_cons_zero, List.set_cons_succ])) | (refine CalmSeq.cons ?_ (Calm.val (by rfl) ?_) ?_; rotate_left; (intro wC hSw; (try dsimp only at hSw); go_simp; with_reducible rfl); (try simp only [Act.put, List.setIfInBounds_toArray, List.set_cons_zero, List.set_cons_succ])) | ((refine CalmSeq.cons ?_ (Calm.call (f := ?_) (args := ?_) (by rfl) ?_ (fun wC hSw => ?_)) ?_; rotate_left 3; (intro wC; go_simp; (refine ⟨?_, ?_⟩ <;> with_reducible rfl)); (go_at_call 69; (with_reducible refine (l2Edge_is (hXi.up hSw.1) h hvk hvi HE.out).mono ?_); rintro e wD ⟨rfl, hbD⟩; apply And.intro; (with_reducible rfl); (have hUD := Up.then_ hSw.1 hbD; exact ⟨hUD, fun _ _ hb => hUD.cell hb, (hUD.cell (by first | assumption | (rw [block_of_add]; assumption))).trans (by assumption), (hUD.cell (by first | assumption | (rw [block_of_add]; assumption))).trans (by assumption), (hUD.cell (by first | assumption | (rw [block_of_add]; assumption))).trans (by assumption)⟩))); (try simp only [Act.put, List.setIfInBounds_toArray, List.set_cons_zero, List.set_cons_succ])))
                intro w3 hS3
                have hU3 : Up wi w3 := hS3.1
                clear hS3 hV0
                go_wp2
                go_roundw
                case rel => exact ⟨0 + 1, by omega, by go_num, Up.then_ hb2 hU3, HA.out⟩
                case measure => simp [intOf]; omega
              · have HF := Lib.hid (hno.out (by rw [HJ.out]; simp))
                clear hno hA0 HJ
                go_wp2
                have hV0 : Up wi wi.drew := (Up.refl _).drew
                refine wp_region_calm (S := (fun w' => Up wi w' ∧ (∀ b o, b < wi.heap.size → w'.cell? ⟨b, o, none⟩ = wi.cell? ⟨b, o, none⟩) ∧ w'.cell? (ad.add k) = some (.int .i64 (y : Nat)) ∧ w'.cell? (ad.add 0) = some (.int .i64 (x : Nat)) ∧ w'.cell? (ad) = some (.int .i64 (x : Nat)))) (by kernel_rfl) (by kernel_rfl) (by exact ⟨hV0, fun _ _ hb => hV0.cell hb, (hV0.cell (by first | assumption | (rw [block_of_add]; assumption))).trans (by assumption), (hV0.cell (by first | assumption | (rw [block_of_add]; assumption))).trans (by assumption), (hV0.cell (by first | assumption | (rw [block_of_add]; assumption))).trans (by assumption)⟩) ?_
                repeat (first | (refine CalmSeq.cons undef (Calm.off (by rfl)) ?_; (try simp only [Act.put, List.setIfInBounds_toArray, List.set_cons_zero, List.set_cons_succ])) | (refine CalmSeq.cons ?_ (Calm.val (by rfl) ?_) ?_; rotate_left; (intro wC hSw; (try dsimp only at hSw); go_simp; done); (try simp only [Act.put, List.setIfInBounds_toArray, List.set_cons_zero, List.set_cons_succ])) | (refine CalmSeq.cons ?_ (Calm.val (by rfl) ?_) ?_; rotate_left; (intro wC hSw; (try dsimp only at hSw); go_simp; with_reducible rfl); (try simp only [Act.put, List.setIfInBounds_toArray, List.set_cons_zero, List.set_cons_succ])) | ((refine CalmSeq.cons ?_ (Calm.call (f := ?_) (args := ?_) (by rfl) ?_ (fun wC hSw => ?_)) ?_; rotate_left 3; (intro wC; go_simp; (refine ⟨?_, ?_⟩ <;> with_reducible rfl)); (go_at_call 69; (with_reducible refine (l2Edge_is (hXi.up hSw.1) h hvk hvi HE.out).mono ?_); rintro e wD ⟨rfl, hbD⟩; apply And.intro; (with_reducible rfl); (have hUD := Up.then_ hSw.1 hbD; exact ⟨hUD, fun _ _ hb => hUD.cell hb, (hUD.cell (by first | assumption | (rw [block_of_add]; assumption))).trans (by assumption), (hUD.cell (by first | assumption | (rw [block_of_add]; assumption))).trans (by assumption), (hUD.cell (by first | assumption | (rw [block_of_add]; assumption))).trans (by assumption)⟩))); (try simp only [Act.put, List.setIfInBounds_toArray, List.set_cons_zero, List.set_cons_succ])))
                intro w3 hS3
                have hU3 : Up wi w3 := hS3.1
                clear hS3 hV0
                go_wp2
                go_ret
                rw [HF.out]
                exact ⟨rfl, Up.then_ hU1 (Up.then_ hb2 hU3)⟩
          · obtain rfl : i = k := by omega
            have HA := Lib.hid (show ∀ z, z < i + 1 → ∀ y, y < z → edge Q (nb o z) (nb o y) = (jHole m) y z from fun z hz => by
              rcases Nat.lt_succ_iff_lt_or_eq.1 hz with h' | rfl
              · exact hall.out z h'
              · exact hall2.out)
            go_wp2
            go_roundw
            case rel => exact ⟨i + 1, by omega, by go_num, hb2, HA.out⟩
            case measure => simp [intOf]; omega
      · obtain rfl : k = m := by omega
        have HY := Lib.hid (HYes.out hall.out)
        go_wp2
        go_ret
        rw [HY.out]
        exact ⟨rfl, Up.then_ hU1 hb⟩
end Go.Proofs.YthncdjcmlpiebaaGreat
