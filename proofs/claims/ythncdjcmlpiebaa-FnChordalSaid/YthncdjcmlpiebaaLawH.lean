/- Helpers of the great laws: the same rows in two slices; a byte of the code. -/
import Derived.Test.YthncdjcmlpiebaaLaw5
import Derived.Test.YthncdjcmlpiebaaDrA
namespace Go.Proofs.Ythncdjcmlpiebaa
open Go.RowKit
set_option maxRecDepth 100000 in
set_option maxHeartbeats 1000000 in
theorem sameLists_up {A B : Option Addr} {n c d b1 b2 : Nat} {ps qs : List RowP} {w : World} (hA0 : OwnS w b1 A n c ps) (hB0 : OwnS w b2 B n d qs) (h : ps.map Prod.snd = qs.map Prod.snd) (hr : ∀ p ∈ ps, p.2.length ≤ 1048576) (hn : n ≤ 1048576) :
    Calls Try.prog 37 #[.slice A n c, .slice B n d] w fun e w' => e = .returned (.bool true) ∧ Below w.heap.size w w' := by
  have HH := Lib.hid h
  have HR := Lib.hid hr
  clear h hr
  go_enter Try.func37, Try.ntmps37
  go_wp2_with fail
  go_loopw [5] (fun i wr => ∃ k : Nat, k ≤ n ∧ i = .int .i64 k ∧ Up w wr) (fun i _ => n - (intOf i).toNat)
  case atStart => exact ⟨0, Nat.zero_le _, rfl, Up.refl _⟩
  case round =>
    obtain ⟨k, hk, rfl, hU⟩ := hrel
    obtain ⟨wo, rfl⟩ : ∃ wo : World, wo = wr := ⟨_, rfl⟩
    have hA := hA0.up hU
    have hB := hB0.up hU
    by_cases hkn : k < n
    · obtain ⟨gA, p, rfl, _, hcA, hgA, hoA, hpk⟩ := hA.split hkn
      obtain ⟨gB, q, rfl, _, hcB, hgB, hoB, hqk⟩ := hB.split hkn
      have hpq : p.2 = q.2 := by
        have h1 := congrArg (fun x => x[k]?) HH.out
        simp only [List.getElem?_map, hpk, hqk, Option.map_some, Option.some.injEq] at h1
        exact h1
      have hpl := HR.out p (List.mem_of_getElem? hpk)
      obtain ⟨⟨P1, P2⟩, xs⟩ := p
      obtain ⟨⟨Q1, Q2⟩, ys⟩ := q
      replace hpq : xs = ys := hpq
      subst hpq
      replace hcA : wo.cell? ⟨gA, k, none⟩ = some (.slice P1 xs.length P2) := hcA
      replace hcB : wo.cell? ⟨gB, k, none⟩ = some (.slice Q1 xs.length Q2) := hcB
      replace hoA : OwnI wo b1 P1 xs.length P2 xs := hoA
      replace hoB : OwnI wo b2 Q1 xs.length Q2 xs := hoB
      replace hpl : xs.length ≤ 1048576 := hpl
      clear hpk hqk
      go_wp2
      have hV0 : Up wo wo.drew := (Up.refl _).drew
      refine wp_region_calm (S := (fun w' => Up wo w' ∧ (∀ b o, b < wo.heap.size → w'.cell? ⟨b, o, none⟩ = wo.cell? ⟨b, o, none⟩) ∧ w'.cell? (⟨gA, k, none⟩) = some (.slice P1 xs.length P2) ∧ w'.cell? (⟨gB, k, none⟩) = some (.slice Q1 xs.length Q2))) (by kernel_rfl) (by kernel_rfl) (by exact ⟨hV0, fun _ _ hb => hV0.cell hb, (hV0.cell (by first | assumption | (rw [block_of_add]; assumption))).trans (by assumption), (hV0.cell (by first | assumption | (rw [block_of_add]; assumption))).trans (by assumption)⟩) ?_
      repeat (first | (refine CalmSeq.cons undef (Calm.off (by rfl)) ?_; (try simp only [Act.put, List.setIfInBounds_toArray, List.set_cons_zero, List.set_cons_succ])) | (refine CalmSeq.cons ?_ (Calm.val (by rfl) ?_) ?_; rotate_left; (intro wC hSw; (try dsimp only at hSw); go_simp; done); (try simp only [Act.put, List.setIfInBounds_toArray, List.set_cons_zero, List.set_cons_succ])) | (refine CalmSeq.cons ?_ (Calm.val (by rfl) ?_) ?_; rotate_left; (intro wC hSw; (try dsimp only at hSw); go_simp; with_reducible rfl); (try simp only [Act.put, List.setIfInBounds_toArray, List.set_cons_zero, List.set_cons_succ])) | ((refine CalmSeq.cons ?_ (Calm.call (f := ?_) (args := ?_) (by rfl) ?_ (fun wC hSw => ?_)) ?_; rotate_left 3; (intro wC; go_simp; (refine ⟨?_, ?_⟩ <;> with_reducible rfl)); (go_at_call 9; (with_reducible refine (sameInts_up (hoA.ri.up hSw.1) (hoB.ri.up hSw.1) hpl).mono ?_); rintro e wD ⟨rfl, hbD⟩; apply And.intro; (with_reducible rfl); (have hUD := Up.then_ hSw.1 hbD; exact ⟨hUD, fun _ _ hb => hUD.cell hb, (hUD.cell (by first | assumption | (rw [block_of_add]; assumption))).trans (by assumption), (hUD.cell (by first | assumption | (rw [block_of_add]; assumption))).trans (by assumption)⟩))); (try simp only [Act.put, List.setIfInBounds_toArray, List.set_cons_zero, List.set_cons_succ])))
      intro w2 hS2
      have hU2 : Up wo w2 := hS2.1
      clear hS2 hV0
      go_wp2
      go_roundw
      case rel => exact ⟨k + 1, by omega, by go_num, Up.then_ hU hU2⟩
      case measure => simp [intOf]; omega
    · obtain rfl : k = n := by omega
      go_wp2
      go_ret
      exact ⟨rfl, hU⟩
theorem at_any {B : Option Addr} {n c : Nat} {bs : List Int} {w : World} (hB : RB w B n bs) (i : Nat) (hi : i ≤ 1048576) (hn : n ≤ 1048576) :
    Calls Try.prog 33 #[.slice B n c, .int .i64 i] w fun e w' => (∃ z : Nat, e = .returned (.int .i64 z) ∧ z ≤ 255) ∧ Below w.heap.size w w' := by
  go_enter Try.func33, Try.ntmps33
  by_cases hin : i < n
  · obtain ⟨ad, rfl, hl, hc⟩ := hB.2 (by omega)
    obtain ⟨hc1, hc2, hc3⟩ := hc i hin
    obtain ⟨b, hb⟩ : ∃ b, b = bs.getD i 0 := ⟨_, rfl⟩
    rw [← hb] at hc1 hc2 hc3
    clear hb hc
    obtain ⟨z, rfl⟩ : ∃ z : Nat, b = z := ⟨b.toNat, by omega⟩
    go_wp2
    go_ret
    exact ⟨⟨z, rfl, by omega⟩, Below.refl _ _⟩
  · go_wp2
    go_ret
    refine ⟨⟨(i * 37 + n * 11) % 256, ?_, by omega⟩, Below.refl _ _⟩
    refine ret_int ?_
    omega
end Go.Proofs.Ythncdjcmlpiebaa
