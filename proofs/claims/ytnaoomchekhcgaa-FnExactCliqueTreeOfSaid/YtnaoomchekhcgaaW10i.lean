/- Walks of chapter 10: IsCliqueOrder. -/
import Derived.Test.YtnaoomchekhcgaaW8v
import Derived.Test.YtnaoomchekhcgaaW7f
import Derived.Test.YtnaoomchekhcgaaSl
import Derived.Test.YtnaoomchekhcgaaW2
namespace Go.Proofs.Ytnaoomchekhcgaa
open Go.RowKit
def isCliqOrd (N : Int) (X l : List Int) : Bool := isGraph N X && decide (sortI l = ints (maxCliquesOf N X)) && fol (l.map Int.toNat)
theorem isCliqOrd_no {N : Int} {X l : List Int} (h : isGraph N X = false) : isCliqOrd N X l = false := by rw [isCliqOrd, h]; rfl
theorem isCliqOrd_ne {N : Int} {X l : List Int} (h : decide (sortI l = ints (maxCliquesOf N X)) = false) : isCliqOrd N X l = false := by rw [isCliqOrd, h, Bool.and_false]; rfl
theorem isCliqOrd_yes {N : Int} {X l : List Int} (hg : isGraph N X = true) (h : decide (sortI l = ints (maxCliquesOf N X)) = true) : isCliqOrd N X l = fol (l.map Int.toNat) := by rw [isCliqOrd, hg, h]; rfl
theorem sorted_nats {N : Int} {X l : List Int} (hg : isGraph N X = true) (h : decide (sortI l = ints (maxCliquesOf N X)) = true) : l = ints (l.map Int.toNat) ∧ ∀ x ∈ l.map Int.toNat, x < 2 ^ 7 := by
  have he : sortI l = ints (maxCliquesOf N X) := of_decide_eq_true h
  obtain ⟨n, Q, rfl, rfl, hk⟩ := isGraph_ok hg
  rw [maxCliquesOf_ok hk] at he
  have hm : ∀ z ∈ l, ∃ x : Nat, z = x ∧ x < 2 ^ 7 := by
    intro z hz
    have : z ∈ ints (maxCliques Q n) := by rw [← he]; exact (sortI_perm l).mem_iff.2 hz
    obtain ⟨x, hx, rfl⟩ := List.mem_map.1 this
    exact ⟨x, rfl, hk.n7 (maxCliques_lt hx)⟩
  refine ⟨?_, fun x hx => ?_⟩
  · refine ints_nats fun i hi => ?_
    obtain ⟨x, e, _⟩ := hm l[i] (List.getElem_mem hi)
    rw [getD_memI hi, e]; omega
  · obtain ⟨z, hz, rfl⟩ := List.mem_map.1 hx
    obtain ⟨y, rfl, hy⟩ := hm z hz
    simpa using hy
theorem implCliques_out {N : Int} {A : Option Addr} {n c : Nat} {X : List Int} {w : World} (hX : RI w A n X) (hn : n ≤ 9223372036854775807) :
    Calls Try.prog 52 #[.agg #[.int .i64 N, .slice A n c]] w fun e w' => ∃ B d, e = .returned (.slice B (maxCliquesOf N X).length d) ∧ OwnI w' w.heap.size B (maxCliquesOf N X).length d (ints (maxCliquesOf N X)) ∧ Below w.heap.size w w' :=
  (implMaximalCliques_any N A n c X w hX hn).mono fun _ _ h => h.out
theorem slEqual_is {A B : Option Addr} {n m ca cb : Nat} {xs ys : List Int} {w : World} {b : Bool} (hA : RI w A n xs) (hB : RI w B m ys) (hn : n ≤ 9223372036854775807) (hb : decide (xs = ys) = b) :
    Calls Try.prog 67 #[.slice A n ca, .slice B m cb] w fun e w' => e = .returned (.bool b) ∧ Below w.heap.size w w' := by
  subst hb; exact slEqual_any A B n m ca cb xs ys w hA hB hn
theorem follow_up {A : Option Addr} {m c : Nat} {o : List Nat} {w : World} {b : Bool} (hL : RI w A m (ints o)) (ho : ∀ x ∈ o, x < 2 ^ 7) (hm : m ≤ 9223372036854775807) (hb : fol o = b) :
    Calls Try.prog 68 #[.slice A m c] w fun e w' => e = .returned (.bool b) ∧ Below w.heap.size w w' :=
  (follow_is hL ho hm hb).mono fun _ _ h => ⟨h.1, h.2 ▸ Below.refl _ _⟩
set_option maxRecDepth 100000 in
set_option maxHeartbeats 2000000 in
theorem implIsCliqueOrder_any (N : Int) (A B : Option Addr) (n c m d : Nat) (X l : List Int) (w : World) (hX : RI w A n X) (hL : RI w B m l) (hn : n ≤ 9223372036854775807) (hm : m ≤ 1048576) :
    Calls Try.prog 40 #[.agg #[.int .i64 N, .slice A n c], .slice B m d] w fun e w' => e = .returned (.bool (isCliqOrd N X l)) ∧ Below w.heap.size w w' := by
  have hbk := Blk.new w 27 #[.int .i64 N, .slice A n c]
  have hU0 : Up w (w.alloc (.cells #[.int .i64 N, .slice A n c] 27)) := by go_grown
  have hXa := hX.up hU0
  have hLa := hL.up hU0
  have hya := hbk.two
  have hla := hbk.lt
  have hm2 : m ≤ 9223372036854775807 := by omega
  have hbka := hbk
  obtain ⟨wa, hwa⟩ : ∃ wa, wa = w.alloc (.cells #[.int .i64 N, .slice A n c] 27) := ⟨_, rfl⟩
  rw [← hwa] at hU0 hXa hLa hya hla hbka
  obtain ⟨g, hg⟩ : ∃ g, g = isGraph N X := ⟨_, rfl⟩
  have HG := Lib.hid hg.symm
  clear hg
  cases g
  · rw [isCliqOrd_no HG.out]
    go_enter Try.func40, Try.ntmps40
    go_wp2
    rw [← hwa]
    have hV0 : Up wa wa.drew := (Up.refl _).drew
    refine wp_region_calm (S := (fun w' => Up wa w' ∧ (∀ b o, b < wa.heap.size → w'.cell? ⟨b, o, none⟩ = wa.cell? ⟨b, o, none⟩))) (by kernel_rfl) (by kernel_rfl) (by exact ⟨hV0, fun _ _ hb => hV0.cell hb⟩) ?_
    repeat (first | (refine CalmSeq.cons undef (Calm.off (by rfl)) ?_; (try simp only [Act.put, List.setIfInBounds_toArray, List.set_cons_zero, List.set_cons_succ])) | (refine CalmSeq.cons ?_ (Calm.val (by rfl) ?_) ?_; rotate_left; (intro wC hSw; (try dsimp only at hSw); go_simp; done); (try simp only [Act.put, List.setIfInBounds_toArray, List.set_cons_zero, List.set_cons_succ])) | (refine CalmSeq.cons ?_ (Calm.val (by rfl) ?_) ?_; rotate_left; (intro wC hSw; (try dsimp only at hSw); go_simp; with_reducible rfl); (try simp only [Act.put, List.setIfInBounds_toArray, List.set_cons_zero, List.set_cons_succ])) | ((refine CalmSeq.cons ?_ (Calm.call (f := ?_) (args := ?_) (by rfl) ?_ (fun wC hSw => ?_)) ?_; rotate_left 3; (intro wC; go_simp; (refine ⟨?_, ?_⟩ <;> with_reducible rfl)); (go_at_call 66; (with_reducible refine (implIsGraph_is (hXa.up hSw.1) hn HG.out).mono ?_); rintro e wD ⟨rfl, hbD⟩; apply And.intro; (with_reducible rfl); (have hUD := Up.then_ hSw.1 hbD; exact ⟨hUD, fun _ _ hb => hUD.cell hb⟩))); (try simp only [Act.put, List.setIfInBounds_toArray, List.set_cons_zero, List.set_cons_succ])))
    intro w1 hS1
    have hU1 : Up wa w1 := hS1.1
    clear hS1 hV0
    go_wp2
    go_ret
    exact ⟨rfl, Up.then_ hU0 hU1⟩
  · obtain ⟨e, he⟩ : ∃ e, e = decide (sortI l = ints (maxCliquesOf N X)) := ⟨_, rfl⟩
    have HE := Lib.hid he.symm
    clear he
    cases e
    · rw [isCliqOrd_ne HE.out]
      go_enter Try.func40, Try.ntmps40
      go_wp2
      rw [← hwa]
      clear hwa
      have hV0 : Up wa wa.drew := (Up.refl _).drew
      refine wp_region_held_drew (S := (fun w' => Up wa w' ∧ (∀ b o, b < wa.heap.size → w'.cell? ⟨b, o, none⟩ = wa.cell? ⟨b, o, none⟩))) (by kernel_rfl) (by exact ⟨hV0, fun _ _ hb => hV0.cell hb⟩) (fun hHeld => ?_)
      refine wpAnyH_take (i := 0) (v := ?_) rfl (by kernel_rfl) (by kernel_rfl) (by kernel_rfl) (fun _ _ _ h => h) (Or.inl ⟨by rfl, ?_⟩) (by assumption) ?_
      rotate_left
      · (intro w' hSw; go_simp; try with_reducible rfl)
      (try simp only [List.getElem_toArray]); (try simp only [List.getElem_cons_succ]); (try simp only [List.getElem_cons_zero]); (try simp only [Act.put]); (try simp only [List.setIfInBounds_toArray]); (try simp only [List.set_cons_succ]); (try simp only [List.set_cons_zero])
      refine wpAnyH_ready (rs := [1]) (by kernel_rfl) (by simp) ?_
      refine AllReadyH.cons rfl (fun K hK => ?_) AllReadyH.nil
      go_simp
      go_at_call 66
      refine (implIsGraph_is (hXa.up hV0) hn HG.out).mono ?_
      rintro e w10 ⟨rfl, hb10⟩
      have hV1 := Up.then_ hV0 hb10
      go_wp2_with fail
      refine hK.out _ _ (by exact ⟨hV1, fun _ _ hb => hV1.cell hb⟩) (fun hHeld1 => ?_)
      clear hK K
      (try simp only [List.getElem_toArray]); (try simp only [List.getElem_cons_succ]); (try simp only [List.getElem_cons_zero]); (try simp only [Act.put]); (try simp only [List.setIfInBounds_toArray]); (try simp only [List.set_cons_succ]); (try simp only [List.set_cons_zero])
      refine wpAnyH_take (i := 2) (v := ?_) rfl (by kernel_rfl) (by kernel_rfl) (by kernel_rfl) (fun _ _ _ h => h) (Or.inl ⟨by rfl, ?_⟩) (by assumption) ?_
      rotate_left
      · (intro w' hSw; go_simp; try with_reducible rfl)
      (try simp only [List.getElem_toArray]); (try simp only [List.getElem_cons_succ]); (try simp only [List.getElem_cons_zero]); (try simp only [Act.put]); (try simp only [List.setIfInBounds_toArray]); (try simp only [List.set_cons_succ]); (try simp only [List.set_cons_zero])
      refine wpAnyH_take (i := 3) (v := ?_) rfl (by kernel_rfl) (by kernel_rfl) (by kernel_rfl) (fun _ _ _ h => h) (Or.inl ⟨by rfl, ?_⟩) (by assumption) ?_
      rotate_left
      · (intro w' hSw; go_simp; try with_reducible rfl)
      (try simp only [List.getElem_toArray]); (try simp only [List.getElem_cons_succ]); (try simp only [List.getElem_cons_zero]); (try simp only [Act.put]); (try simp only [List.setIfInBounds_toArray]); (try simp only [List.set_cons_succ]); (try simp only [List.set_cons_zero])
      refine wpAnyH_take (i := 5) (v := ?_) rfl (by kernel_rfl) (by kernel_rfl) (by kernel_rfl) (fun _ _ _ h => h) (Or.inl ⟨by rfl, ?_⟩) (by assumption) ?_
      rotate_left
      · (intro w' hSw; go_simp; try with_reducible rfl)
      (try simp only [List.getElem_toArray]); (try simp only [List.getElem_cons_succ]); (try simp only [List.getElem_cons_zero]); (try simp only [Act.put]); (try simp only [List.setIfInBounds_toArray]); (try simp only [List.set_cons_succ]); (try simp only [List.set_cons_zero])
      refine wpAnyH_ready (rs := [4]) (by kernel_rfl) (by simp) ?_
      refine AllReadyH.cons rfl (fun K hK => ?_) AllReadyH.nil
      go_simp
      go_at_call 62
      refine (sorted_any B m d l _ (hLa.up hV1) hm).mono ?_
      rintro e w11 ⟨A9, c9, rfl, hown9, hb11⟩
      have hV2 := Up.then_ hV1 hb11
      go_wp2_with fail
      refine hK.out _ _ (by exact ⟨hV2, fun _ _ hb => hV2.cell hb⟩) (fun hHeld2 => ?_)
      clear hK K
      (try simp only [List.getElem_toArray]); (try simp only [List.getElem_cons_succ]); (try simp only [List.getElem_cons_zero]); (try simp only [Act.put]); (try simp only [List.setIfInBounds_toArray]); (try simp only [List.set_cons_succ]); (try simp only [List.set_cons_zero])
      refine wpAnyH_ready (rs := [6]) (by kernel_rfl) (by simp) ?_
      refine AllReadyH.cons rfl (fun K hK => ?_) AllReadyH.nil
      go_simp
      go_at_call 52
      refine (implCliques_out (hXa.up hV2) hn).mono ?_
      rintro e w12 ⟨A11, c11, rfl, hown11, hb12⟩
      have hV3 := Up.then_ hV2 hb12
      go_wp2_with fail
      refine hK.out _ _ (by exact ⟨hV3, fun _ _ hb => hV3.cell hb⟩) (fun hHeld3 => ?_)
      clear hK K
      (try simp only [List.getElem_toArray]); (try simp only [List.getElem_cons_succ]); (try simp only [List.getElem_cons_zero]); (try simp only [Act.put]); (try simp only [List.setIfInBounds_toArray]); (try simp only [List.set_cons_succ]); (try simp only [List.set_cons_zero])
      refine wpAnyH_ready (rs := [7]) (by kernel_rfl) (by simp) ?_
      refine AllReadyH.cons rfl (fun K hK => ?_) AllReadyH.nil
      go_simp
      go_at_call 67
      refine (slEqual_is (hown9.ri.up hb12) hown11.ri hm2 HE.out).mono ?_
      rintro e w13 ⟨rfl, hb13⟩
      have hV4 := Up.then_ hV3 hb13
      go_wp2_with fail
      refine hK.out _ _ (by exact ⟨hV4, fun _ _ hb => hV4.cell hb⟩) (fun hHeld4 => ?_)
      clear hK K
      (try simp only [List.getElem_toArray]); (try simp only [List.getElem_cons_succ]); (try simp only [List.getElem_cons_zero]); (try simp only [Act.put]); (try simp only [List.setIfInBounds_toArray]); (try simp only [List.set_cons_succ]); (try simp only [List.set_cons_zero])
      refine wpAnyH_take (i := 8) (v := ?_) rfl (by kernel_rfl) (by kernel_rfl) (by kernel_rfl) (fun _ _ _ h => h) (Or.inl ⟨by rfl, ?_⟩) (by assumption) ?_
      rotate_left
      · (intro w' hSw; go_simp; try with_reducible rfl)
      (try simp only [List.getElem_toArray]); (try simp only [List.getElem_cons_succ]); (try simp only [List.getElem_cons_zero]); (try simp only [Act.put]); (try simp only [List.setIfInBounds_toArray]); (try simp only [List.set_cons_succ]); (try simp only [List.set_cons_zero])
      refine wpAnyH_take (i := 9) (v := ?_) rfl (by kernel_rfl) (by kernel_rfl) (by kernel_rfl) (fun _ _ _ h => h) (Or.inl ⟨by rfl, ?_⟩) (by assumption) ?_
      rotate_left
      · (intro w' hSw; go_simp; try with_reducible rfl)
      (try simp only [List.getElem_toArray]); (try simp only [List.getElem_cons_succ]); (try simp only [List.getElem_cons_zero]); (try simp only [Act.put]); (try simp only [List.setIfInBounds_toArray]); (try simp only [List.set_cons_succ]); (try simp only [List.set_cons_zero])
      refine wpAnyH_take (i := 10) (v := undef) rfl (by kernel_rfl) (by kernel_rfl) (by kernel_rfl) (fun _ _ _ h => h) (Or.inr ⟨by rfl, rfl⟩) (by assumption) ?_
      (try simp only [List.getElem_toArray]); (try simp only [List.getElem_cons_succ]); (try simp only [List.getElem_cons_zero]); (try simp only [Act.put]); (try simp only [List.setIfInBounds_toArray]); (try simp only [List.set_cons_succ]); (try simp only [List.set_cons_zero])
      refine wpAnyH_take (i := 11) (v := undef) rfl (by kernel_rfl) (by kernel_rfl) (by kernel_rfl) (fun _ _ _ h => h) (Or.inr ⟨by rfl, rfl⟩) (by assumption) ?_
      (try simp only [List.getElem_toArray]); (try simp only [List.getElem_cons_succ]); (try simp only [List.getElem_cons_zero]); (try simp only [Act.put]); (try simp only [List.setIfInBounds_toArray]); (try simp only [List.set_cons_succ]); (try simp only [List.set_cons_zero])
      refine wpAnyH_take (i := 12) (v := ?_) rfl (by kernel_rfl) (by kernel_rfl) (by kernel_rfl) (fun _ _ _ h => h) (Or.inl ⟨by rfl, ?_⟩) (by assumption) ?_
      rotate_left
      · (intro w' hSw; go_simp; try with_reducible rfl)
      (try simp only [List.getElem_toArray]); (try simp only [List.getElem_cons_succ]); (try simp only [List.getElem_cons_zero]); (try simp only [Act.put]); (try simp only [List.setIfInBounds_toArray]); (try simp only [List.set_cons_succ]); (try simp only [List.set_cons_zero])
      refine wpAnyH_take (i := 13) (v := ?_) rfl (by kernel_rfl) (by kernel_rfl) (by kernel_rfl) (fun _ _ _ h => h) (Or.inl ⟨by rfl, ?_⟩) (by assumption) ?_
      rotate_left
      · (intro w' hSw; go_simp; try with_reducible rfl)
      (try simp only [List.getElem_toArray]); (try simp only [List.getElem_cons_succ]); (try simp only [List.getElem_cons_zero]); (try simp only [Act.put]); (try simp only [List.setIfInBounds_toArray]); (try simp only [List.set_cons_succ]); (try simp only [List.set_cons_zero])
      refine wpAnyH_done (by kernel_rfl) ?_ _
      have hU1 := hV4
      go_wp2
      go_ret
      exact ⟨rfl, Up.then_ hU0 hU1⟩
    · have hnat := sorted_nats HG.out HE.out
      rw [isCliqOrd_yes HG.out HE.out]
      obtain ⟨o, ho⟩ : ∃ o, o = l.map Int.toNat := ⟨_, rfl⟩
      rw [← ho] at hnat ⊢
      have HN := Lib.hid hnat
      obtain ⟨f, hf⟩ : ∃ f, f = fol o := ⟨_, rfl⟩
      have HF := Lib.hid hf.symm
      rw [← hf]
      have hLo : RI wa B m (ints o) := by rw [← hnat.1]; exact hLa
      clear hnat ho hf
      go_enter Try.func40, Try.ntmps40
      go_wp2
      rw [← hwa]
      clear hwa
      have hV0 : Up wa wa.drew := (Up.refl _).drew
      go_region_held3 (fun w' => Up wa w' ∧ (∀ b o, b < wa.heap.size → w'.cell? ⟨b, o, none⟩ = wa.cell? ⟨b, o, none⟩)) (first | exact (by exact ⟨hV5, fun _ _ hb => hV5.cell hb⟩) | exact (by exact ⟨hV4, fun _ _ hb => hV4.cell hb⟩) | exact (by exact ⟨hV3, fun _ _ hb => hV3.cell hb⟩) | exact (by exact ⟨hV2, fun _ _ hb => hV2.cell hb⟩) | exact (by exact ⟨hV1, fun _ _ hb => hV1.cell hb⟩) | exact (by exact ⟨hV0, fun _ _ hb => hV0.cell hb⟩)) (first | (go_at_call 66; refine (implIsGraph_is (hXa.up hV0) hn HG.out).mono ?_; rintro e w10 ⟨rfl, hb10⟩; have hV1 := Up.then_ hV0 hb10) | (go_at_call 62; refine (sorted_any B m d l _ (hLa.up hV1) hm).mono ?_; rintro e w11 ⟨A9, c9, rfl, hown9, hb11⟩; have hV2 := Up.then_ hV1 hb11) | (go_at_call 52; refine (implCliques_out (hXa.up hV2) hn).mono ?_; rintro e w12 ⟨A11, c11, rfl, hown11, hb12⟩; have hV3 := Up.then_ hV2 hb12) | (go_at_call 67; refine (slEqual_is (hown9.ri.up hb12) hown11.ri hm2 HE.out).mono ?_; rintro e w13 ⟨rfl, hb13⟩; have hV4 := Up.then_ hV3 hb13) | (go_at_call 68; refine (follow_up (hLo.up hV4) HN.out.2 hm2 HF.out).mono ?_; rintro e w14 ⟨rfl, hb14⟩; have hV5 := Up.then_ hV4 hb14))
      have hU1 := hV5
      go_wp2
      go_ret
      exact ⟨rfl, Up.then_ hU0 hU1⟩
theorem specCliques_out {N : Int} {A : Option Addr} {n c : Nat} {X : List Int} {w : World} (hX : RI w A n X) (hn : n ≤ 9223372036854775807) :
    Calls Try.prog 46 #[.agg #[.int .i64 N, .slice A n c]] w fun e w' => ∃ B d, e = .returned (.slice B (maxCliquesOf N X).length d) ∧ OwnI w' w.heap.size B (maxCliquesOf N X).length d (ints (maxCliquesOf N X)) ∧ Below w.heap.size w w' :=
  (specMaximalCliques_any N A n c X w hX hn).mono fun _ _ h => h.out
theorem l8Same_is {A B : Option Addr} {n m ca cb : Nat} {xs ys : List Int} {w : World} {b : Bool} (hA : RI w A n xs) (hB : RI w B m ys) (hn : n ≤ 9223372036854775807) (hb : decide (xs = ys) = b) :
    Calls Try.prog 64 #[.slice A n ca, .slice B m cb] w fun e w' => e = .returned (.bool b) ∧ Below w.heap.size w w' := by
  subst hb; exact l8Same_any A B n m ca cb xs ys w hA hB hn
theorem consec_up {A : Option Addr} {m c : Nat} {o : List Nat} {w : World} {b : Bool} (hL : RI w A m (ints o)) (ho : ∀ x ∈ o, x < 2 ^ 7) (hm : m ≤ 9223372036854775806) (hb : fol o = b) :
    Calls Try.prog 65 #[.slice A m c] w fun e w' => e = .returned (.bool b) ∧ Below w.heap.size w w' :=
  (consec_is hL ho hm hb).mono fun _ _ h => ⟨h.1, h.2 ▸ Below.refl _ _⟩
set_option maxRecDepth 100000 in
set_option maxHeartbeats 2000000 in
theorem specIsCliqueOrder_any (N : Int) (A B : Option Addr) (n c m d : Nat) (X l : List Int) (w : World) (hX : RI w A n X) (hL : RI w B m l) (hn : n ≤ 9223372036854775807) (hm : m ≤ 1048576) :
    Calls Try.prog 38 #[.agg #[.int .i64 N, .slice A n c], .slice B m d] w fun e w' => e = .returned (.bool (isCliqOrd N X l)) ∧ Below w.heap.size w w' := by
  have hbk := Blk.new w 27 #[.int .i64 N, .slice A n c]
  have hU0 : Up w (w.alloc (.cells #[.int .i64 N, .slice A n c] 27)) := by go_grown
  have hXa := hX.up hU0
  have hLa := hL.up hU0
  have hya := hbk.two
  have hla := hbk.lt
  have hm2 : m ≤ 9223372036854775807 := by omega
  have hm3 : m ≤ 9223372036854775806 := by omega
  have hbka := hbk
  obtain ⟨wa, hwa⟩ : ∃ wa, wa = w.alloc (.cells #[.int .i64 N, .slice A n c] 27) := ⟨_, rfl⟩
  rw [← hwa] at hU0 hXa hLa hya hla hbka
  obtain ⟨g, hg⟩ : ∃ g, g = isGraph N X := ⟨_, rfl⟩
  have HG := Lib.hid hg.symm
  clear hg
  cases g
  · rw [isCliqOrd_no HG.out]
    go_enter Try.func38, Try.ntmps38
    go_wp2
    rw [← hwa]
    have hV0 : Up wa wa.drew := (Up.refl _).drew
    refine wp_region_calm (S := (fun w' => Up wa w' ∧ (∀ b o, b < wa.heap.size → w'.cell? ⟨b, o, none⟩ = wa.cell? ⟨b, o, none⟩))) (by kernel_rfl) (by kernel_rfl) (by exact ⟨hV0, fun _ _ hb => hV0.cell hb⟩) ?_
    repeat (first | (refine CalmSeq.cons undef (Calm.off (by rfl)) ?_; (try simp only [Act.put, List.setIfInBounds_toArray, List.set_cons_zero, List.set_cons_succ])) | (refine CalmSeq.cons ?_ (Calm.val (by rfl) ?_) ?_; rotate_left; (intro wC hSw; (try dsimp only at hSw); go_simp; done); (try simp only [Act.put, List.setIfInBounds_toArray, List.set_cons_zero, List.set_cons_succ])) | (refine CalmSeq.cons ?_ (Calm.val (by rfl) ?_) ?_; rotate_left; (intro wC hSw; (try dsimp only at hSw); go_simp; with_reducible rfl); (try simp only [Act.put, List.setIfInBounds_toArray, List.set_cons_zero, List.set_cons_succ])) | ((refine CalmSeq.cons ?_ (Calm.call (f := ?_) (args := ?_) (by rfl) ?_ (fun wC hSw => ?_)) ?_; rotate_left 3; (intro wC; go_simp; (refine ⟨?_, ?_⟩ <;> with_reducible rfl)); (go_at_call 63; (with_reducible refine (specIsGraph_is (hXa.up hSw.1) hn HG.out).mono ?_); rintro e wD ⟨rfl, hbD⟩; apply And.intro; (with_reducible rfl); (have hUD := Up.then_ hSw.1 hbD; exact ⟨hUD, fun _ _ hb => hUD.cell hb⟩))); (try simp only [Act.put, List.setIfInBounds_toArray, List.set_cons_zero, List.set_cons_succ])))
    intro w1 hS1
    have hU1 : Up wa w1 := hS1.1
    clear hS1 hV0
    go_wp2
    go_ret
    exact ⟨rfl, Up.then_ hU0 hU1⟩
  · obtain ⟨e, he⟩ : ∃ e, e = decide (sortI l = ints (maxCliquesOf N X)) := ⟨_, rfl⟩
    have HE := Lib.hid he.symm
    clear he
    cases e
    · rw [isCliqOrd_ne HE.out]
      go_enter Try.func38, Try.ntmps38
      go_wp2
      rw [← hwa]
      clear hwa
      have hV0 : Up wa wa.drew := (Up.refl _).drew
      refine wp_region_held_drew (S := (fun w' => Up wa w' ∧ (∀ b o, b < wa.heap.size → w'.cell? ⟨b, o, none⟩ = wa.cell? ⟨b, o, none⟩))) (by kernel_rfl) (by exact ⟨hV0, fun _ _ hb => hV0.cell hb⟩) (fun hHeld => ?_)
      refine wpAnyH_take (i := 0) (v := ?_) rfl (by kernel_rfl) (by kernel_rfl) (by kernel_rfl) (fun _ _ _ h => h) (Or.inl ⟨by rfl, ?_⟩) (by assumption) ?_
      rotate_left
      · (intro w' hSw; go_simp; try with_reducible rfl)
      (try simp only [List.getElem_toArray]); (try simp only [List.getElem_cons_succ]); (try simp only [List.getElem_cons_zero]); (try simp only [Act.put]); (try simp only [List.setIfInBounds_toArray]); (try simp only [List.set_cons_succ]); (try simp only [List.set_cons_zero])
      refine wpAnyH_ready (rs := [1]) (by kernel_rfl) (by simp) ?_
      refine AllReadyH.cons rfl (fun K hK => ?_) AllReadyH.nil
      go_simp
      go_at_call 63
      refine (specIsGraph_is (hXa.up hV0) hn HG.out).mono ?_
      rintro e w10 ⟨rfl, hb10⟩
      have hV1 := Up.then_ hV0 hb10
      go_wp2_with fail
      refine hK.out _ _ (by exact ⟨hV1, fun _ _ hb => hV1.cell hb⟩) (fun hHeld1 => ?_)
      clear hK K
      (try simp only [List.getElem_toArray]); (try simp only [List.getElem_cons_succ]); (try simp only [List.getElem_cons_zero]); (try simp only [Act.put]); (try simp only [List.setIfInBounds_toArray]); (try simp only [List.set_cons_succ]); (try simp only [List.set_cons_zero])
      refine wpAnyH_take (i := 2) (v := ?_) rfl (by kernel_rfl) (by kernel_rfl) (by kernel_rfl) (fun _ _ _ h => h) (Or.inl ⟨by rfl, ?_⟩) (by assumption) ?_
      rotate_left
      · (intro w' hSw; go_simp; try with_reducible rfl)
      (try simp only [List.getElem_toArray]); (try simp only [List.getElem_cons_succ]); (try simp only [List.getElem_cons_zero]); (try simp only [Act.put]); (try simp only [List.setIfInBounds_toArray]); (try simp only [List.set_cons_succ]); (try simp only [List.set_cons_zero])
      refine wpAnyH_take (i := 3) (v := ?_) rfl (by kernel_rfl) (by kernel_rfl) (by kernel_rfl) (fun _ _ _ h => h) (Or.inl ⟨by rfl, ?_⟩) (by assumption) ?_
      rotate_left
      · (intro w' hSw; go_simp; try with_reducible rfl)
      (try simp only [List.getElem_toArray]); (try simp only [List.getElem_cons_succ]); (try simp only [List.getElem_cons_zero]); (try simp only [Act.put]); (try simp only [List.setIfInBounds_toArray]); (try simp only [List.set_cons_succ]); (try simp only [List.set_cons_zero])
      refine wpAnyH_take (i := 5) (v := ?_) rfl (by kernel_rfl) (by kernel_rfl) (by kernel_rfl) (fun _ _ _ h => h) (Or.inl ⟨by rfl, ?_⟩) (by assumption) ?_
      rotate_left
      · (intro w' hSw; go_simp; try with_reducible rfl)
      (try simp only [List.getElem_toArray]); (try simp only [List.getElem_cons_succ]); (try simp only [List.getElem_cons_zero]); (try simp only [Act.put]); (try simp only [List.setIfInBounds_toArray]); (try simp only [List.set_cons_succ]); (try simp only [List.set_cons_zero])
      refine wpAnyH_ready (rs := [4]) (by kernel_rfl) (by simp) ?_
      refine AllReadyH.cons rfl (fun K hK => ?_) AllReadyH.nil
      go_simp
      go_at_call 59
      refine (l8Sorted_any B m d l _ (hLa.up hV1) hm).mono ?_
      rintro e w11 ⟨A9, c9, rfl, hown9, hb11⟩
      have hV2 := Up.then_ hV1 hb11
      go_wp2_with fail
      refine hK.out _ _ (by exact ⟨hV2, fun _ _ hb => hV2.cell hb⟩) (fun hHeld2 => ?_)
      clear hK K
      (try simp only [List.getElem_toArray]); (try simp only [List.getElem_cons_succ]); (try simp only [List.getElem_cons_zero]); (try simp only [Act.put]); (try simp only [List.setIfInBounds_toArray]); (try simp only [List.set_cons_succ]); (try simp only [List.set_cons_zero])
      refine wpAnyH_ready (rs := [6]) (by kernel_rfl) (by simp) ?_
      refine AllReadyH.cons rfl (fun K hK => ?_) AllReadyH.nil
      go_simp
      go_at_call 46
      refine (specCliques_out (hXa.up hV2) hn).mono ?_
      rintro e w12 ⟨A11, c11, rfl, hown11, hb12⟩
      have hV3 := Up.then_ hV2 hb12
      go_wp2_with fail
      refine hK.out _ _ (by exact ⟨hV3, fun _ _ hb => hV3.cell hb⟩) (fun hHeld3 => ?_)
      clear hK K
      (try simp only [List.getElem_toArray]); (try simp only [List.getElem_cons_succ]); (try simp only [List.getElem_cons_zero]); (try simp only [Act.put]); (try simp only [List.setIfInBounds_toArray]); (try simp only [List.set_cons_succ]); (try simp only [List.set_cons_zero])
      refine wpAnyH_ready (rs := [7]) (by kernel_rfl) (by simp) ?_
      refine AllReadyH.cons rfl (fun K hK => ?_) AllReadyH.nil
      go_simp
      go_at_call 64
      refine (l8Same_is (hown9.ri.up hb12) hown11.ri hm2 HE.out).mono ?_
      rintro e w13 ⟨rfl, hb13⟩
      have hV4 := Up.then_ hV3 hb13
      go_wp2_with fail
      refine hK.out _ _ (by exact ⟨hV4, fun _ _ hb => hV4.cell hb⟩) (fun hHeld4 => ?_)
      clear hK K
      (try simp only [List.getElem_toArray]); (try simp only [List.getElem_cons_succ]); (try simp only [List.getElem_cons_zero]); (try simp only [Act.put]); (try simp only [List.setIfInBounds_toArray]); (try simp only [List.set_cons_succ]); (try simp only [List.set_cons_zero])
      refine wpAnyH_take (i := 8) (v := ?_) rfl (by kernel_rfl) (by kernel_rfl) (by kernel_rfl) (fun _ _ _ h => h) (Or.inl ⟨by rfl, ?_⟩) (by assumption) ?_
      rotate_left
      · (intro w' hSw; go_simp; try with_reducible rfl)
      (try simp only [List.getElem_toArray]); (try simp only [List.getElem_cons_succ]); (try simp only [List.getElem_cons_zero]); (try simp only [Act.put]); (try simp only [List.setIfInBounds_toArray]); (try simp only [List.set_cons_succ]); (try simp only [List.set_cons_zero])
      refine wpAnyH_take (i := 9) (v := ?_) rfl (by kernel_rfl) (by kernel_rfl) (by kernel_rfl) (fun _ _ _ h => h) (Or.inl ⟨by rfl, ?_⟩) (by assumption) ?_
      rotate_left
      · (intro w' hSw; go_simp; try with_reducible rfl)
      (try simp only [List.getElem_toArray]); (try simp only [List.getElem_cons_succ]); (try simp only [List.getElem_cons_zero]); (try simp only [Act.put]); (try simp only [List.setIfInBounds_toArray]); (try simp only [List.set_cons_succ]); (try simp only [List.set_cons_zero])
      refine wpAnyH_take (i := 10) (v := undef) rfl (by kernel_rfl) (by kernel_rfl) (by kernel_rfl) (fun _ _ _ h => h) (Or.inr ⟨by rfl, rfl⟩) (by assumption) ?_
      (try simp only [List.getElem_toArray]); (try simp only [List.getElem_cons_succ]); (try simp only [List.getElem_cons_zero]); (try simp only [Act.put]); (try simp only [List.setIfInBounds_toArray]); (try simp only [List.set_cons_succ]); (try simp only [List.set_cons_zero])
      refine wpAnyH_take (i := 11) (v := undef) rfl (by kernel_rfl) (by kernel_rfl) (by kernel_rfl) (fun _ _ _ h => h) (Or.inr ⟨by rfl, rfl⟩) (by assumption) ?_
      (try simp only [List.getElem_toArray]); (try simp only [List.getElem_cons_succ]); (try simp only [List.getElem_cons_zero]); (try simp only [Act.put]); (try simp only [List.setIfInBounds_toArray]); (try simp only [List.set_cons_succ]); (try simp only [List.set_cons_zero])
      refine wpAnyH_take (i := 12) (v := ?_) rfl (by kernel_rfl) (by kernel_rfl) (by kernel_rfl) (fun _ _ _ h => h) (Or.inl ⟨by rfl, ?_⟩) (by assumption) ?_
      rotate_left
      · (intro w' hSw; go_simp; try with_reducible rfl)
      (try simp only [List.getElem_toArray]); (try simp only [List.getElem_cons_succ]); (try simp only [List.getElem_cons_zero]); (try simp only [Act.put]); (try simp only [List.setIfInBounds_toArray]); (try simp only [List.set_cons_succ]); (try simp only [List.set_cons_zero])
      refine wpAnyH_take (i := 13) (v := ?_) rfl (by kernel_rfl) (by kernel_rfl) (by kernel_rfl) (fun _ _ _ h => h) (Or.inl ⟨by rfl, ?_⟩) (by assumption) ?_
      rotate_left
      · (intro w' hSw; go_simp; try with_reducible rfl)
      (try simp only [List.getElem_toArray]); (try simp only [List.getElem_cons_succ]); (try simp only [List.getElem_cons_zero]); (try simp only [Act.put]); (try simp only [List.setIfInBounds_toArray]); (try simp only [List.set_cons_succ]); (try simp only [List.set_cons_zero])
      refine wpAnyH_done (by kernel_rfl) ?_ _
      have hU1 := hV4
      go_wp2
      go_ret
      exact ⟨rfl, Up.then_ hU0 hU1⟩
    · have hnat := sorted_nats HG.out HE.out
      rw [isCliqOrd_yes HG.out HE.out]
      obtain ⟨o, ho⟩ : ∃ o, o = l.map Int.toNat := ⟨_, rfl⟩
      rw [← ho] at hnat ⊢
      have HN := Lib.hid hnat
      obtain ⟨f, hf⟩ : ∃ f, f = fol o := ⟨_, rfl⟩
      have HF := Lib.hid hf.symm
      rw [← hf]
      have hLo : RI wa B m (ints o) := by rw [← hnat.1]; exact hLa
      clear hnat ho hf
      go_enter Try.func38, Try.ntmps38
      go_wp2
      rw [← hwa]
      clear hwa
      have hV0 : Up wa wa.drew := (Up.refl _).drew
      go_region_held3 (fun w' => Up wa w' ∧ (∀ b o, b < wa.heap.size → w'.cell? ⟨b, o, none⟩ = wa.cell? ⟨b, o, none⟩)) (first | exact (by exact ⟨hV5, fun _ _ hb => hV5.cell hb⟩) | exact (by exact ⟨hV4, fun _ _ hb => hV4.cell hb⟩) | exact (by exact ⟨hV3, fun _ _ hb => hV3.cell hb⟩) | exact (by exact ⟨hV2, fun _ _ hb => hV2.cell hb⟩) | exact (by exact ⟨hV1, fun _ _ hb => hV1.cell hb⟩) | exact (by exact ⟨hV0, fun _ _ hb => hV0.cell hb⟩)) (first | (go_at_call 63; refine (specIsGraph_is (hXa.up hV0) hn HG.out).mono ?_; rintro e w10 ⟨rfl, hb10⟩; have hV1 := Up.then_ hV0 hb10) | (go_at_call 59; refine (l8Sorted_any B m d l _ (hLa.up hV1) hm).mono ?_; rintro e w11 ⟨A9, c9, rfl, hown9, hb11⟩; have hV2 := Up.then_ hV1 hb11) | (go_at_call 46; refine (specCliques_out (hXa.up hV2) hn).mono ?_; rintro e w12 ⟨A11, c11, rfl, hown11, hb12⟩; have hV3 := Up.then_ hV2 hb12) | (go_at_call 64; refine (l8Same_is (hown9.ri.up hb12) hown11.ri hm2 HE.out).mono ?_; rintro e w13 ⟨rfl, hb13⟩; have hV4 := Up.then_ hV3 hb13) | (go_at_call 65; refine (consec_up (hLo.up hV4) HN.out.2 hm3 HF.out).mono ?_; rintro e w14 ⟨rfl, hb14⟩; have hV5 := Up.then_ hV4 hb14))
      have hU1 := hV5
      go_wp2
      go_ret
      exact ⟨rfl, Up.then_ hU0 hU1⟩
end Go.Proofs.Ytnaoomchekhcgaa
