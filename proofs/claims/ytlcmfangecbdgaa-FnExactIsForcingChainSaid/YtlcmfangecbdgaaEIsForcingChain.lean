/- The law FnExactIsForcingChain: for all arguments the program's IsForcingChain returns what the reference's returns, and leaves its arguments alone. -/
import Derived.Test.YtlcmfangecbdgaaRow
import Derived.Test.YtlcmfangecbdgaaLaw6
import Derived.Test.YtlcmfangecbdgaaW13u
import Derived.Deep.RegionHeld3
namespace Go.Proofs.Ytlcmfangecbdgaa
open Go.RowKit

set_option maxRecDepth 100000 in
set_option maxHeartbeats 4000000 in
theorem lawIsForcingChain_any (N0 : Int) (A0 : Option Addr) (n0 c0 : Nat) (X0 : List Int) (A1 : Option Addr) (n1 c1 : Nat) (P1 : List RowP) (w : World) (hx0 : RI w A0 n0 X0) (hn0 : n0 ≤ 9223372036854775807) (hx1 : RS w A1 n1 P1) (hn1 : n1 ≤ 9223372036854775807) (hr1 : ∀ p ∈ P1, p.2.length ≤ 9223372036854775807) :
    Calls Try.prog 5 #[.agg #[.int .i64 N0, .slice A0 n0 c0], .slice A1 n1 c1] w fun e w' => e = .returned (.bool true) ∧ Below w.heap.size w w' := by
  have HX0 := Lib.hid hx0.1
  have HR1 := Lib.hid hr1
  clear hr1
  obtain ⟨tot, htot⟩ : ∃ tot, tot = sumL (snds P1) := ⟨_, rfl⟩
  have HT := Lib.hid htot
  clear htot
  by_cases hs : n0 ≤ 1048576
  · obtain ⟨l, hl⟩ : ∃ l : Int, l = 1048576 - n0 := ⟨_, rfl⟩
    have HL := Lib.hid hl
    have hl0 : 0 ≤ l := by omega
    have hl1 : l ≤ 1048576 := by omega
    go_enter Try.func5, Try.ntmps5
    have hbox0 := Blk.new w 24 #[.int .i64 N0, .slice A0 n0 c0]
    go_wp2_with fail
    refine (szGraph_ok _ _ _ _ _ _ (by omega) (by omega)).mono ?_
    rintro e w1 ⟨rfl, hb1⟩
    rw [← HL.out]
    clear hl
    have hw1 : Below w.heap.size w w1 := Up.then_ (by go_grown) hb1
    replace hx0 := (hx0.alloc (.cells #[.int .i64 N0, .slice A0 n0 c0] 24)).up hb1
    replace hx1 := (hx1.alloc (.cells #[.int .i64 N0, .slice A0 n0 c0] 24)).up hb1
    replace hbox0 := hbox0.up hb1
    have yhbox0 := hbox0.two
    have zhbox0 := fun o => (hbox0.alloc o).two
    have lhbox0 := hbox0.lt
    by_cases hs2 : (n1 : Int) + (tot : Nat) ≤ l
    rotate_left
    · go_wp2_with fail
      refine (szIntSS_big _ _ _ _ _ _ hx1 (by rw [← HT.out]; omega) hl0 hl1 hn1 HR1.out).mono ?_
      rintro e w2 ⟨rfl, rfl⟩
      go_wp2
      go_ret
      exact ⟨rfl, hw1⟩
    have hs3 : n1 ≤ 1048576 := by omega
    have hs4 : tot ≤ 1048576 := by omega
    go_wp2_with fail
    refine (szIntSS_ok _ _ _ _ _ _ hx1 (by rw [← HT.out]; omega) hl1).mono ?_
    rintro e w2 ⟨rfl, rfl⟩
    rw [← HT.out]
    obtain ⟨l2, hl2⟩ : ∃ l2, l2 = l - (n1 : Int) - (tot : Int) := ⟨_, rfl⟩
    have hl2n : ¬ l2 < 0 := by omega
    rw [← hl2]
    clear hl2
    go_wp2_with fail
    refine (toGraph_any _ _ _ _ _ _ hx0 (by omega)).mono ?_
    rintro e w3 ⟨gas0, rfl, hgs0, kas0, hb3⟩
    have hw3 : Below w.heap.size w w3 := Up.then_ hw1 hb3
    replace hx0 := hx0.up hb3
    replace hx1 := hx1.up hb3
    replace hbox0 := hbox0.up hb3
    replace yhbox0 := hbox0.two
    replace zhbox0 := fun o => (hbox0.alloc o).two
    replace lhbox0 := hbox0.lt
    go_wp2_with fail
    refine (toIntSS_any _ _ _ _ _ hx1 hs3 (by rw [← HT.out]; exact hs4)).mono ?_
    rintro e w4 ⟨gs1, qs1, rfl, hos1, hqs1, hb4⟩
    have HQ1 := Lib.hid hqs1
    clear hqs1
    have hw4 : Below w.heap.size w w4 := Up.then_ hw3 hb4
    replace hx0 := hx0.up hb4
    replace hx1 := hx1.up hb4
    replace hbox0 := hbox0.up hb4
    replace kas0 := kas0.up hb4
    replace yhbox0 := hbox0.two
    replace zhbox0 := fun o => (hbox0.alloc o).two
    replace lhbox0 := hbox0.lt
    go_wp2_with fail
    refine (specIsFC_any N0 _ _ _ _ _ _ _ X0 qs1 _ (kas0.ri HX0.out) hos1 (by omega)).mono ?_
    rintro e w5 ⟨rfl, hb5⟩
    have HV1 := Lib.hid (show isFC N0 X0 (qs1.map Prod.snd) = isFC N0 X0 (snds P1) by rw [← HQ1.out]; rfl)
    rw [HV1.out]
    obtain ⟨V, hV⟩ : ∃ V, V = isFC N0 X0 (snds P1) := ⟨_, rfl⟩
    have HV := Lib.hid hV
    rw [← hV]
    clear hV
    have hw5 : Below w.heap.size w w5 := Up.then_ hw4 hb5
    replace hx0 := hx0.up hb5
    replace hx1 := hx1.up hb5
    replace hbox0 := hbox0.up hb5
    replace yhbox0 := hbox0.two
    replace zhbox0 := fun o => (hbox0.alloc o).two
    replace lhbox0 := hbox0.lt
    clear hos1 kas0
    go_wp2_with fail
    refine (toGraph_any _ _ _ _ _ _ hx0 (by omega)).mono ?_
    rintro e w6 ⟨gax0, rfl, hgx0, kax0, hb6⟩
    have hw6 : Below w.heap.size w w6 := Up.then_ hw5 hb6
    replace hx0 := hx0.up hb6
    replace hx1 := hx1.up hb6
    replace hbox0 := hbox0.up hb6
    replace yhbox0 := hbox0.two
    replace zhbox0 := fun o => (hbox0.alloc o).two
    replace lhbox0 := hbox0.lt
    have hvar0 := Blk.new w6 27 #[.int .i64 N0, .slice (some ⟨gax0, 0, none⟩) n0 n0]
    go_wp2_with fail
    refine (toIntSS_any _ _ _ _ _ (hx1.alloc (.cells #[.int .i64 N0, .slice (some ⟨gax0, 0, none⟩) n0 n0] 27)) hs3 (by rw [← HT.out]; exact hs4)).mono ?_
    rintro e w7 ⟨gx1, qx1, rfl, hox1, hqx1, hb7⟩
    have HX1 := Lib.hid hqx1
    clear hqx1
    have hw7 : Below w.heap.size w w7 := Up.then_ (by go_grown) hb7
    replace hx0 := (hx0.alloc (.cells #[.int .i64 N0, .slice (some ⟨gax0, 0, none⟩) n0 n0] 27)).up hb7
    replace hx1 := (hx1.alloc (.cells #[.int .i64 N0, .slice (some ⟨gax0, 0, none⟩) n0 n0] 27)).up hb7
    replace hbox0 := (hbox0.alloc (.cells #[.int .i64 N0, .slice (some ⟨gax0, 0, none⟩) n0 n0] 27)).up hb7
    replace kax0 := (kax0.alloc (.cells #[.int .i64 N0, .slice (some ⟨gax0, 0, none⟩) n0 n0] 27)).up hb7
    replace hvar0 := hvar0.up hb7
    replace yhbox0 := hbox0.two
    replace zhbox0 := fun o => (hbox0.alloc o).two
    replace lhbox0 := hbox0.lt
    have yhvar0 := hvar0.two
    have zhvar0 := fun o => (hvar0.alloc o).two
    have lhvar0 := hvar0.lt
    go_wp2_with fail
    refine (implIsFC_any N0 _ _ _ _ _ _ _ X0 qx1 _ (kax0.ri HX0.out) hox1 (by omega)).mono ?_
    rintro e w8 ⟨rfl, hb8⟩
    have HV2 := Lib.hid (show isFC N0 X0 (qx1.map Prod.snd) = V by rw [HV.out, ← HX1.out]; rfl)
    rw [HV2.out]
    have hw8 : Below w.heap.size w w8 := Up.then_ hw7 hb8
    replace hx0 := hx0.up hb8
    replace hx1 := hx1.up hb8
    replace hbox0 := hbox0.up hb8
    replace kax0 := kax0.up hb8
    replace hox1 := hox1.up hb8
    replace hvar0 := hvar0.up hb8
    replace yhbox0 := hbox0.two
    replace zhbox0 := fun o => (hbox0.alloc o).two
    replace lhbox0 := hbox0.lt
    replace yhvar0 := hvar0.two
    replace zhvar0 := fun o => (hvar0.alloc o).two
    replace lhvar0 := hvar0.lt
    have hVV : (V != V) = false := by simp
    go_wp2
    have hU0 : Up w8 w8.drew := (Up.refl _).drew
    go_region_held3 (fun w' => Up w8 w' ∧ ∀ b o, b < w8.heap.size → w'.cell? ⟨b, o, none⟩ = w8.cell? ⟨b, o, none⟩) (first | exact upk hU2 | exact upk hU1 | exact upk hU0)
      (first | (go_at_call 16; refine (toGraph_any _ _ _ _ _ _ (hx0.up hU0) (by omega)).mono ?_; rintro e w9 ⟨gaz0, rfl, hgz0, kaz0, hb9⟩; have hU1 := Up.then_ hU0 hb9) | (go_at_call 18; refine (eqGraph_any _ _ _ _ _ _ _ _ _ _ _  ((kax0.up hU1).ri HX0.out) (kaz0.ri HX0.out) hn0).mono ?_; rintro e w10 ⟨rfl, hb10⟩; have hU2 := Up.then_ hU1 hb10))
    have hw10 : Below w.heap.size w w10 := Up.then_ hw8 hU2
    replace hx1 := hx1.up hU2
    replace hox1 := hox1.up hU2
    clear hU0 hU1 hU2
    go_wp2_with fail
    refine (toIntSS_any _ _ _ _ _ hx1 hs3 (by rw [← HT.out]; exact hs4)).mono ?_
    rintro e w11 ⟨gz1, qz1, rfl, hoz1, hqz1, hb11⟩
    have HZ1 := Lib.hid hqz1
    clear hqz1
    have hw11 : Below w.heap.size w w11 := Up.then_ hw10 hb11
    replace hox1 := hox1.up hb11
    go_wp2_with fail
    refine (eqIntSS_yes hox1 hoz1 (HX1.out.trans HZ1.out.symm) (by rw [HX1.out, ← HT.out]; exact hs4) hs3).mono ?_
    rintro e w12 ⟨rfl, hb12⟩
    have hw12 : Below w.heap.size w w12 := Up.then_ hw11 hb12
    go_wp2
    go_ret
    exact ⟨rfl, hw12⟩
  · go_enter Try.func5, Try.ntmps5
    have hbox0 := Blk.new w 24 #[.int .i64 N0, .slice A0 n0 c0]
    go_wp2_with fail
    refine (szGraph_big _ _ _ _ _ _ (by omega) (by omega) (by omega) hn0).mono ?_
    rintro e w1 ⟨rfl, hb1⟩
    have hw1 : Below w.heap.size w w1 := Up.then_ (by go_grown) hb1
    go_wp2
    go_ret
    exact ⟨rfl, hw1⟩

open Go.ChangeShapes Go.WideShapes Go.ChangeAt Go.Joins Go.Deep in
set_option maxRecDepth 100000 in
theorem lawIsForcingChain_lifted (os : Os) (started : os.Started) (H : Type) (enc : TypeId × Value → H) :
    ReturnsInHanded {} Try.checked os 5 .any (Rows.fnExactIsForcingChainSpec.pre6 enc Try.prog Try.f5 Rows.fnExactIsForcingChainRow.domain false) (Rows.fnExactIsForcingChainSpec.post enc Try.prog Try.f5 false true false false) := by
  refine returnsInHanded_of_change (C := Try.checked) Try.own_law started (by kernel_rfl) Try.func5
    (ChangeSpec.witness6 (enc := enc) (C := Try.checked) false ⟨#[], #[.agg #[.int .i64 0, .slice none 0 0], .slice none 0 0], []⟩ 8 (by kernel_rfl) (by kernel_rfl) (by kernel_rfl) (by kernel_rfl)) ?_
  intro W base args ds gs before hval0 hW _ _
  have hval : ∀ (j : Nat) t v, Try.f5.params[j]? = some t → args[j]? = some v → Value.okWide Try.prog W .any base t v := hval0
  have hW' := hW
  obtain ⟨p, q, hA0, hV, rfl, _, _⟩ := hW
  have hA : DataW.TrodAll enc Try.prog W 0 (fun _ => true) true Try.f5.params.toList args.toList ds p := hA0
  rw [Try.params5] at hA hval
  obtain ⟨v0, vs0, d0, ds0, p0, q0, hargs, rfl, rfl, h0, r0⟩ := trodAll_cons hA
  obtain ⟨v1, vs1, d1, ds1, p1, q1, rfl, rfl, rfl, h1, r1⟩ := trodAll_cons r0
  obtain ⟨rfl, rfl, rfl⟩ := trodAll_nil r1
  obtain rfl : args = #[v0, v1] := by cases args; simp_all
  obtain ⟨rfl, rfl⟩ := trodVars_none hV
  have t0 := h0
  have lt0 : ∀ x ∈ p0, x.block < W.heap.size := by obtain ⟨m, hm⟩ := t0; exact DataW.trod_lt m _ _ _ hm
  obtain ⟨N0, A0, n0, c0, X0, rfl, hx0, hn0, fx0⟩ := open_nI Try.underlying24 (by kernel_rfl) (by kernel_rfl) rfl rfl Try.underlying22 Try.underlying3 (by kernel_rfl) (hval 0 24 v0 rfl rfl) h0
  have t1 := h1
  have lt1 : ∀ x ∈ p1, x.block < W.heap.size := by obtain ⟨m, hm⟩ := t1; exact DataW.trod_lt m _ _ _ hm
  obtain ⟨A1, n1, c1, P1, rfl, hx1, hn1, hr1⟩ := open_SS Try.underlying36 Try.underlying22 Try.underlying3 (by kernel_rfl) (by kernel_rfl) (hval 1 36 v1 rfl rfl) h1
  refine (lawIsForcingChain_any N0 A0 n0 c0 X0 A1 n1 c1 P1 W hx0 hn0 hx1 hn1 hr1).mono fun e W' ⟨he, bel⟩ => ?_
  subst he
  exact ⟨_, rfl, _, _, _, [], _, [], hW', trodAll_mk1 (shut_bool Try.underlying4 _), (trodAll_cons_mk (Below.trod Try.laidOut_law (by kernel_rfl) (of_decide_eq_true (by kernel_rfl)) t0 bel lt0) (trodAll_cons_mk (Below.trod Try.laidOut_law (by kernel_rfl) (of_decide_eq_true (by kernel_rfl)) t1 bel lt1) trodAll_mk0)), rfl, bel.frame _, fun h => by cases h⟩

theorem lawIsForcingChain_holds : Rows.FnExactIsForcingChainSaid :=
  OpenClaim.holds_of_wide 5 Try.f5 rfl rfl rfl rfl rfl rfl rfl ⟨rfl, rfl, rfl, rfl, rfl⟩ rfl rfl rfl rfl rfl (by kernel_rfl) Try.func5 (by kernel_rfl)
    (of_decide_eq_true (by kernel_rfl)) (by unfold Func.isWrapper; first | (rw [if_pos (by decide +kernel)]; kernel_rfl) | (rw [if_neg (by decide +kernel)]; exact ⟨rfl, rfl⟩))
    (fun os started H enc _ => lawIsForcingChain_lifted os started H enc)
#print axioms lawIsForcingChain_holds
end Go.Proofs.Ytlcmfangecbdgaa
