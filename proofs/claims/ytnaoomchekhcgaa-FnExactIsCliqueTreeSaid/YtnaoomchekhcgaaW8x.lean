/- Walks of chapter 8: bags that hang together. -/
import Derived.Test.YtnaoomchekhcgaaW8w
import Derived.Test.YtnaoomchekhcgaaCalm
import Derived.Test.YtnaoomchekhcgaaW2
namespace Go.Proofs.Ytnaoomchekhcgaa
open Go.RowKit
/-- Bag i is the topmost one with v. -/
def topAt (b : List Nat) (P : List Int) (v i : Nat) : Bool := (nb b i).testBit v && (decide (i = 0) || !(nb b (P.getD i 0).toNat).testBit v)
def tops (b : List Nat) (P : List Int) (v : Nat) : Nat → Nat
  | 0 => 0
  | k + 1 => tops b P v k + if topAt b P v k then 1 else 0
theorem tops_yes {b : List Nat} {P : List Int} {v k : Nat} (h : topAt b P v k = true) : tops b P v (k + 1) = tops b P v k + 1 := by rw [tops, if_pos h]
theorem tops_no {b : List Nat} {P : List Int} {v k : Nat} (h : topAt b P v k = false) : tops b P v (k + 1) = tops b P v k := by rw [tops, h]; rfl
theorem tops_le (b : List Nat) (P : List Int) (v : Nat) : ∀ k, tops b P v k ≤ k
  | 0 => Nat.le_refl _
  | k + 1 => by have := tops_le b P v k; rw [tops]; split <;> omega
def hang (b : List Nat) (P : List Int) (v : Nat) : Bool := decide (tops b P v b.length ≤ 1)
def joinAll (b : List Nat) (P : List Int) (n : Nat) : Bool := (List.range n).all (hang b P)
theorem joinAll_true {b : List Nat} {P : List Int} {n : Nat} (h : ∀ v, v < n → hang b P v = true) : joinAll b P n = true := by
  rw [joinAll, List.all_eq_true]
  exact fun v hv => h v (List.mem_range.1 hv)
theorem joinAll_false {b : List Nat} {P : List Int} {n v : Nat} (hv : v < n) (h : hang b P v = false) : joinAll b P n = false := by
  rw [joinAll, List.all_eq_false]
  exact ⟨v, List.mem_range.2 hv, by rw [h]; exact Bool.false_ne_true⟩
theorem tops_none {b : List Nat} {P : List Int} {v : Nat} (h : ∀ j, (nb b j).testBit v = false) : ∀ k, tops b P v k = 0
  | 0 => rfl
  | k + 1 => by rw [tops_no (by rw [topAt, h]; rfl), tops_none h k]
/-- Vertices behind n are in no bag. -/
theorem joinAll_more {b : List Nat} {P : List Int} {n : Nat} (hn : n ≤ 7) (hb : ∀ j, nb b j < 2 ^ n) : joinAll b P n = joinAll b P 7 := by
  rcases Bool.eq_false_or_eq_true (joinAll b P n) with e | e
  · rw [e]
    symm
    refine joinAll_true fun v _ => ?_
    rcases Nat.lt_or_ge v n with h | h
    · rw [joinAll, List.all_eq_true] at e
      exact e v (List.mem_range.2 h)
    · rw [hang, tops_none fun j => Nat.testBit_lt_two_pow (Nat.lt_of_lt_of_le (hb j) (Nat.pow_le_pow_right (by omega) h))]
      rfl
  · rw [e]
    rw [joinAll, List.all_eq_false] at e
    obtain ⟨v, hv, h⟩ := e
    exact (joinAll_false (Nat.lt_of_lt_of_le (List.mem_range.1 hv) hn) (by simpa using h)).symm
theorem has_up8 {s v : Nat} {w : World} {b : Bool} (hs : s < 128) (hv : v < 7) (h : s.testBit v = b) : Calls Try.prog 79 #[.int .i64 s, .int .i64 v] w fun e w' => e = .returned (.bool b) ∧ Below w.heap.size w w' :=
  (has_is (by omega) (by omega) h).mono fun _ _ k => ⟨k.1, by rw [k.2]; exact Below.refl _ _⟩
set_option maxRecDepth 100000 in
set_option maxHeartbeats 4000000 in
theorem hangs_any (A B : Option Addr) (ca cb v : Nat) (b : List Nat) (R : List Int) (w : World) (hT : isTree (ints b) R = true) (hb128 : ∀ j, nb b j < 128) (hb20 : b.length ≤ 20) (hL : RI w A b.length (ints b)) (hR : RI w B b.length R) (hv : v < 7) :
    Calls Try.prog 70 #[.agg #[.slice A b.length ca, .slice B b.length cb], .int .i64 v] w fun e w' => e = .returned (.bool (hang b R v)) ∧ Below w.heap.size w w' := by
  have hbk := Blk.new w 33 #[.slice A b.length ca, .slice B b.length cb]
  have hU0 : Up w (w.alloc (.cells #[.slice A b.length ca, .slice B b.length cb] 33)) := by go_grown
  have HP := Lib.hid (fun (i : Nat) (h0 : 0 < i) (hi : i < b.length) => parent_nat hT h0 hi)
  have HB := Lib.hid hb128
  have HLE := Lib.hid (tops_le b R v)
  have hy0 := hbk.two
  clear hT hb128
  go_enter Try.func70, Try.ntmps70
  go_wp2_with fail
  go_loopw [5, 11] (fun s i wr => ∃ k : Nat, k ≤ b.length ∧ i = .int .i64 (k : Nat) ∧ s = .int .i64 (tops b R v k : Nat) ∧ Blk wr w.heap.size 33 #[.slice A b.length ca, .slice B b.length cb] ∧ Up w wr) (fun _ i _ => b.length - (intOf i).toNat)
  case atStart => exact ⟨0, Nat.zero_le _, rfl, rfl, hbk, hU0⟩
  case round =>
    clear hbk hU0 hy0
    obtain ⟨k, hk, rfl, rfl, hbk, hb⟩ := hrel
    obtain ⟨wo, rfl⟩ : ∃ wo : World, wo = wr := ⟨_, rfl⟩
    by_cases hkt : k < b.length
    · obtain ⟨a, rfl, hca⟩ := (hL.up hb).ints_at hkt
      have hab : a.block < wo.heap.size := by have := World.block_lt_of_cell? wo _ hca; rwa [block_of_add] at this
      have hx7 := HB.out k
      have HTA := Lib.hid (show topAt b R v k = ((nb b k).testBit v && (decide (k = 0) || !(nb b (R.getD k 0).toNat).testBit v)) from rfl)
      have HY := Lib.hid (tops_yes (b := b) (P := R) (v := v) (k := k))
      have HN := Lib.hid (tops_no (b := b) (P := R) (v := v) (k := k))
      obtain ⟨x, hx⟩ : ∃ x, x = nb b k := ⟨_, rfl⟩
      rw [← hx] at hx7 hca HTA
      obtain ⟨t, ht⟩ : ∃ t, t = tops b R v k := ⟨_, rfl⟩
      have htl : t ≤ k := by rw [ht]; exact HLE.out k
      rw [← ht] at HY HN ⊢
      clear hx ht
      obtain ⟨e1, he1⟩ : ∃ e, e = x.testBit v := ⟨_, rfl⟩
      have H1 := Lib.hid he1.symm
      clear he1
      have hbl := hbk.lt
      have hbc0 := hbk.two.1
      have hbc1 := hbk.two.2
      cases e1
      · have HR := Lib.hid (HN.out (by rw [HTA.out, H1.out]; rfl))
        go_wp2
        go_wp2
        have hV0 : Up wo wo.drew := (Up.refl _).drew
        refine wp_region_calm (S := (fun w' => Up wo w' ∧ (∀ b o, b < wo.heap.size → w'.cell? ⟨b, o, none⟩ = wo.cell? ⟨b, o, none⟩))) (by kernel_rfl) (by kernel_rfl) (by exact ⟨hV0, fun _ _ hb => hV0.cell hb⟩) ?_
        repeat (first | (refine CalmSeq.cons undef (Calm.off (by rfl)) ?_; (try simp only [Act.put, List.setIfInBounds_toArray, List.set_cons_zero, List.set_cons_succ])) | (refine CalmSeq.cons ?_ (Calm.val (by rfl) ?_) ?_; rotate_left; (intro wC hSw; (try dsimp only at hSw); go_simp; done); (try simp only [Act.put, List.setIfInBounds_toArray, List.set_cons_zero, List.set_cons_succ])) | (refine CalmSeq.cons ?_ (Calm.val (by rfl) ?_) ?_; rotate_left; (intro wC hSw; (try dsimp only at hSw); go_simp; with_reducible rfl); (try simp only [Act.put, List.setIfInBounds_toArray, List.set_cons_zero, List.set_cons_succ])) | ((refine CalmSeq.cons ?_ (Calm.call (f := ?_) (args := ?_) (by rfl) ?_ (fun wC hSw => ?_)) ?_; rotate_left 3; (intro wC; go_simp; (refine ⟨?_, ?_⟩ <;> with_reducible rfl)); (go_at_call 79; (with_reducible refine (has_up8 hx7 hv H1.out).mono ?_); rintro e wD ⟨rfl, hbD⟩; apply And.intro; (with_reducible rfl); (have hUD := Up.then_ hSw.1 hbD; exact ⟨hUD, fun _ _ hb => hUD.cell hb⟩))); (try simp only [Act.put, List.setIfInBounds_toArray, List.set_cons_zero, List.set_cons_succ])))
        intro w2 hS2
        have hU2 : Up wo w2 := hS2.1
        clear hS2 hV0
        have hbk2 := hbk.up hU2
        go_wp2
        go_roundw
        case rel => exact ⟨k + 1, by omega, by go_num, by rw [HR.out], hbk2, Up.then_ hb hU2⟩
        case measure => simp [intOf]; omega
      · rcases Nat.eq_zero_or_pos k with hk0 | hk0
        · have HR := Lib.hid (HY.out (by rw [HTA.out, H1.out, hk0]; rfl))
          have z0 : ((k : Int) == 0) = true := by rw [beq_iff_eq]; omega
          clear hk0
          go_wp2
          go_wp2
          have hV0 : Up wo wo.drew := (Up.refl _).drew
          refine wp_region_calm (S := (fun w' => Up wo w' ∧ (∀ b o, b < wo.heap.size → w'.cell? ⟨b, o, none⟩ = wo.cell? ⟨b, o, none⟩))) (by kernel_rfl) (by kernel_rfl) (by exact ⟨hV0, fun _ _ hb => hV0.cell hb⟩) ?_
          repeat (first | (refine CalmSeq.cons undef (Calm.off (by rfl)) ?_; (try simp only [Act.put, List.setIfInBounds_toArray, List.set_cons_zero, List.set_cons_succ])) | (refine CalmSeq.cons ?_ (Calm.val (by rfl) ?_) ?_; rotate_left; (intro wC hSw; (try dsimp only at hSw); go_simp; done); (try simp only [Act.put, List.setIfInBounds_toArray, List.set_cons_zero, List.set_cons_succ])) | (refine CalmSeq.cons ?_ (Calm.val (by rfl) ?_) ?_; rotate_left; (intro wC hSw; (try dsimp only at hSw); go_simp; with_reducible rfl); (try simp only [Act.put, List.setIfInBounds_toArray, List.set_cons_zero, List.set_cons_succ])) | ((refine CalmSeq.cons ?_ (Calm.call (f := ?_) (args := ?_) (by rfl) ?_ (fun wC hSw => ?_)) ?_; rotate_left 3; (intro wC; go_simp; (refine ⟨?_, ?_⟩ <;> with_reducible rfl)); (go_at_call 79; (with_reducible refine (has_up8 hx7 hv H1.out).mono ?_); rintro e wD ⟨rfl, hbD⟩; apply And.intro; (with_reducible rfl); (have hUD := Up.then_ hSw.1 hbD; exact ⟨hUD, fun _ _ hb => hUD.cell hb⟩))); (try simp only [Act.put, List.setIfInBounds_toArray, List.set_cons_zero, List.set_cons_succ])))
          intro w2 hS2
          have hU2 : Up wo w2 := hS2.1
          clear hS2 hV0
          have hbk2 := hbk.up hU2
          go_wp2
          go_roundw
          case rel => exact ⟨k + 1, by omega, by go_num, by rw [HR.out]; go_num, hbk2, Up.then_ hb hU2⟩
          case measure => simp [intOf]; omega
        · obtain ⟨q, hq, hqk, hqn⟩ := HP.out k hk0 hkt
          have z0 : ((k : Int) == 0) = false := by rw [beq_eq_false_iff_ne]; omega
          obtain ⟨a', e, hcq⟩ := (hL.up hb).ints_at (show q < b.length by omega)
          injection e with e
          subst e
          obtain ⟨r, rfl, hrb, hcr⟩ := (hR.up hb).at_ hkt
          rw [hq] at hcr
          have hy7 := HB.out q
          rw [hqn] at HTA
          obtain ⟨y, hy⟩ : ∃ y, y = nb b q := ⟨_, rfl⟩
          rw [← hy] at hy7 hcq HTA
          have hqm : q < b.length := by omega
          clear hy hq hqn
          obtain ⟨e2, he2⟩ : ∃ e, e = y.testBit v := ⟨_, rfl⟩
          have H2 := Lib.hid he2.symm
          have hk0f := decide_eq_false (show ¬ k = 0 by omega)
          have HT2 := Lib.hid (show topAt b R v k = !e2 by rw [HTA.out, H1.out, H2.out, hk0f]; rfl)
          clear he2 hk0f hk0
          cases e2
          · have HR := Lib.hid (HY.out (by rw [HT2.out]; rfl))
            go_wp2
            go_wp2
            have hV0 : Up wo wo.drew := (Up.refl _).drew
            refine wp_region_calm (S := (fun w' => Up wo w' ∧ (∀ b o, b < wo.heap.size → w'.cell? ⟨b, o, none⟩ = wo.cell? ⟨b, o, none⟩) ∧ w'.cell? (⟨w.heap.size, 0, none⟩) = some (.slice (some a) b.length ca) ∧ w'.cell? (⟨w.heap.size, 1, none⟩) = some (.slice (some r) b.length cb) ∧ w'.cell? (r.add k) = some (.int .i64 q) ∧ w'.cell? (a.add q) = some (.int .i64 y))) (by kernel_rfl) (by kernel_rfl) (by exact ⟨hV0, fun _ _ hb => hV0.cell hb, (hV0.cell (by first | assumption | (rw [block_of_add]; assumption))).trans (by assumption), (hV0.cell (by first | assumption | (rw [block_of_add]; assumption))).trans (by assumption), (hV0.cell (by first | assumption | (rw [block_of_add]; assumption))).trans (by assumption), (hV0.cell (by first | assumption | (rw [block_of_add]; assumption))).trans (by assumption)⟩) ?_
            repeat (first | (refine CalmSeq.cons undef (Calm.off (by rfl)) ?_; (try simp only [Act.put, List.setIfInBounds_toArray, List.set_cons_zero, List.set_cons_succ])) | (refine CalmSeq.cons ?_ (Calm.val (by rfl) ?_) ?_; rotate_left; (intro wC hSw; (try dsimp only at hSw); go_simp; done); (try simp only [Act.put, List.setIfInBounds_toArray, List.set_cons_zero, List.set_cons_succ])) | (refine CalmSeq.cons ?_ (Calm.val (by rfl) ?_) ?_; rotate_left; (intro wC hSw; (try dsimp only at hSw); go_simp; with_reducible rfl); (try simp only [Act.put, List.setIfInBounds_toArray, List.set_cons_zero, List.set_cons_succ])) | ((refine CalmSeq.cons ?_ (Calm.call (f := ?_) (args := ?_) (by rfl) ?_ (fun wC hSw => ?_)) ?_; rotate_left 3; (intro wC; go_simp; (refine ⟨?_, ?_⟩ <;> with_reducible rfl)); (go_at_call 79; (with_reducible refine (has_up8 hx7 hv H1.out).mono ?_); rintro e wD ⟨rfl, hbD⟩; apply And.intro; (with_reducible rfl); (have hUD := Up.then_ hSw.1 hbD; exact ⟨hUD, fun _ _ hb => hUD.cell hb, (hUD.cell (by first | assumption | (rw [block_of_add]; assumption))).trans (by assumption), (hUD.cell (by first | assumption | (rw [block_of_add]; assumption))).trans (by assumption), (hUD.cell (by first | assumption | (rw [block_of_add]; assumption))).trans (by assumption), (hUD.cell (by first | assumption | (rw [block_of_add]; assumption))).trans (by assumption)⟩))); (try simp only [Act.put, List.setIfInBounds_toArray, List.set_cons_zero, List.set_cons_succ])) | ((refine CalmSeq.cons ?_ (Calm.call (f := ?_) (args := ?_) (by rfl) ?_ (fun wC hSw => ?_)) ?_; rotate_left 3; (intro wC; go_simp; (refine ⟨?_, ?_⟩ <;> with_reducible rfl)); (go_at_call 79; (with_reducible refine (has_up8 hy7 hv H2.out).mono ?_); rintro e wD ⟨rfl, hbD⟩; apply And.intro; (with_reducible rfl); (have hUD := Up.then_ hSw.1 hbD; exact ⟨hUD, fun _ _ hb => hUD.cell hb, (hUD.cell (by first | assumption | (rw [block_of_add]; assumption))).trans (by assumption), (hUD.cell (by first | assumption | (rw [block_of_add]; assumption))).trans (by assumption), (hUD.cell (by first | assumption | (rw [block_of_add]; assumption))).trans (by assumption), (hUD.cell (by first | assumption | (rw [block_of_add]; assumption))).trans (by assumption)⟩))); (try simp only [Act.put, List.setIfInBounds_toArray, List.set_cons_zero, List.set_cons_succ])))
            intro w2 hS2
            have hU2 : Up wo w2 := hS2.1
            clear hS2 hV0
            have hbk2 := hbk.up hU2
            go_wp2
            go_roundw
            case rel => exact ⟨k + 1, by omega, by go_num, by rw [HR.out]; go_num, hbk2, Up.then_ hb hU2⟩
            case measure => simp [intOf]; omega
          · have HR := Lib.hid (HN.out (by rw [HT2.out]; rfl))
            go_wp2
            go_wp2
            have hV0 : Up wo wo.drew := (Up.refl _).drew
            refine wp_region_calm (S := (fun w' => Up wo w' ∧ (∀ b o, b < wo.heap.size → w'.cell? ⟨b, o, none⟩ = wo.cell? ⟨b, o, none⟩) ∧ w'.cell? (⟨w.heap.size, 0, none⟩) = some (.slice (some a) b.length ca) ∧ w'.cell? (⟨w.heap.size, 1, none⟩) = some (.slice (some r) b.length cb) ∧ w'.cell? (r.add k) = some (.int .i64 q) ∧ w'.cell? (a.add q) = some (.int .i64 y))) (by kernel_rfl) (by kernel_rfl) (by exact ⟨hV0, fun _ _ hb => hV0.cell hb, (hV0.cell (by first | assumption | (rw [block_of_add]; assumption))).trans (by assumption), (hV0.cell (by first | assumption | (rw [block_of_add]; assumption))).trans (by assumption), (hV0.cell (by first | assumption | (rw [block_of_add]; assumption))).trans (by assumption), (hV0.cell (by first | assumption | (rw [block_of_add]; assumption))).trans (by assumption)⟩) ?_
            repeat (first | (refine CalmSeq.cons undef (Calm.off (by rfl)) ?_; (try simp only [Act.put, List.setIfInBounds_toArray, List.set_cons_zero, List.set_cons_succ])) | (refine CalmSeq.cons ?_ (Calm.val (by rfl) ?_) ?_; rotate_left; (intro wC hSw; (try dsimp only at hSw); go_simp; done); (try simp only [Act.put, List.setIfInBounds_toArray, List.set_cons_zero, List.set_cons_succ])) | (refine CalmSeq.cons ?_ (Calm.val (by rfl) ?_) ?_; rotate_left; (intro wC hSw; (try dsimp only at hSw); go_simp; with_reducible rfl); (try simp only [Act.put, List.setIfInBounds_toArray, List.set_cons_zero, List.set_cons_succ])) | ((refine CalmSeq.cons ?_ (Calm.call (f := ?_) (args := ?_) (by rfl) ?_ (fun wC hSw => ?_)) ?_; rotate_left 3; (intro wC; go_simp; (refine ⟨?_, ?_⟩ <;> with_reducible rfl)); (go_at_call 79; (with_reducible refine (has_up8 hx7 hv H1.out).mono ?_); rintro e wD ⟨rfl, hbD⟩; apply And.intro; (with_reducible rfl); (have hUD := Up.then_ hSw.1 hbD; exact ⟨hUD, fun _ _ hb => hUD.cell hb, (hUD.cell (by first | assumption | (rw [block_of_add]; assumption))).trans (by assumption), (hUD.cell (by first | assumption | (rw [block_of_add]; assumption))).trans (by assumption), (hUD.cell (by first | assumption | (rw [block_of_add]; assumption))).trans (by assumption), (hUD.cell (by first | assumption | (rw [block_of_add]; assumption))).trans (by assumption)⟩))); (try simp only [Act.put, List.setIfInBounds_toArray, List.set_cons_zero, List.set_cons_succ])) | ((refine CalmSeq.cons ?_ (Calm.call (f := ?_) (args := ?_) (by rfl) ?_ (fun wC hSw => ?_)) ?_; rotate_left 3; (intro wC; go_simp; (refine ⟨?_, ?_⟩ <;> with_reducible rfl)); (go_at_call 79; (with_reducible refine (has_up8 hy7 hv H2.out).mono ?_); rintro e wD ⟨rfl, hbD⟩; apply And.intro; (with_reducible rfl); (have hUD := Up.then_ hSw.1 hbD; exact ⟨hUD, fun _ _ hb => hUD.cell hb, (hUD.cell (by first | assumption | (rw [block_of_add]; assumption))).trans (by assumption), (hUD.cell (by first | assumption | (rw [block_of_add]; assumption))).trans (by assumption), (hUD.cell (by first | assumption | (rw [block_of_add]; assumption))).trans (by assumption), (hUD.cell (by first | assumption | (rw [block_of_add]; assumption))).trans (by assumption)⟩))); (try simp only [Act.put, List.setIfInBounds_toArray, List.set_cons_zero, List.set_cons_succ])))
            intro w2 hS2
            have hU2 : Up wo w2 := hS2.1
            clear hS2 hV0
            have hbk2 := hbk.up hU2
            go_wp2
            go_roundw
            case rel => exact ⟨k + 1, by omega, by go_num, by rw [HR.out], hbk2, Up.then_ hb hU2⟩
            case measure => simp [intOf]; omega
    · obtain rfl : k = b.length := by omega
      have HR := Lib.hid (show hang b R v = decide (tops b R v b.length ≤ 1) from rfl)
      obtain ⟨t, ht⟩ : ∃ t, t = tops b R v b.length := ⟨_, rfl⟩
      rw [← ht] at HR ⊢
      clear ht
      by_cases h1 : t ≤ 1
      · have d1 : decide ((t : Int) ≤ 1) = true := decide_eq_true (by omega)
        have HQ := Lib.hid (show hang b R v = true by rw [HR.out]; exact decide_eq_true h1)
        go_wp2
        go_ret
        exact ⟨ret_bool HQ.out.symm, hb⟩
      · have d1 : decide ((t : Int) ≤ 1) = false := decide_eq_false (by omega)
        have HQ := Lib.hid (show hang b R v = false by rw [HR.out]; exact decide_eq_false h1)
        go_wp2
        go_ret
        exact ⟨ret_bool HQ.out.symm, hb⟩
end Go.Proofs.Ytnaoomchekhcgaa
