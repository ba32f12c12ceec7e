/- The law FnExactIsComparability: for all arguments the program's IsComparability returns what the reference's returns, and leaves its arguments alone. -/
import Derived.Test.YtlcmfangecbdgaaRow
import Derived.Test.YtlcmfangecbdgaaConIsComparability
import Derived.Deep.RegionHeld3
namespace Go.Proofs.Ytlcmfangecbdgaa
open Go.RowKit

set_option maxRecDepth 100000 in
set_option maxHeartbeats 4000000 in
theorem lawIsComparability_any (N0 : Int) (A0 : Option Addr) (n0 c0 : Nat) (X0 : List Int) (w : World) (hx0 : RI w A0 n0 X0) (hn0 : n0 ≤ 9223372036854775807) (fx0 : Fits X0) :
    Calls Try.prog 10 #[.agg #[.int .i64 N0, .slice A0 n0 c0]] w fun e w' => e = .returned (.bool true) ∧ Below w.heap.size w w' := by
  have HX0 := Lib.hid hx0.1
  by_cases hs : n0 ≤ 1048576
  · have _hs0 := hs
    go_enter Try.func10, Try.ntmps10
    have hbox0 := Blk.new w 24 #[.int .i64 N0, .slice A0 n0 c0]
    go_wp2_with fail
    refine (szGraph_ok _ _ _ _ _ _ (by omega) (by omega)).mono ?_
    rintro e w1 ⟨rfl, hb1⟩
    have hw1 : Below w.heap.size w w1 := Up.then_ (by go_grown) hb1
    replace hx0 := (hx0.alloc (.cells #[.int .i64 N0, .slice A0 n0 c0] 24)).up hb1
    replace hbox0 := hbox0.up hb1
    have yhbox0 := hbox0.two
    have zhbox0 := fun o => (hbox0.alloc o).two
    have lhbox0 := hbox0.lt
    go_wp2_with fail
    refine (toGraph_any _ _ _ _ _ _ hx0 (by omega)).mono ?_
    rintro e w2 ⟨gas0, rfl, hgs0, kas0, hb2⟩
    have hw2 : Below w.heap.size w w2 := Up.then_ (by go_grown) hb2
    replace hx0 := hx0.up hb2
    replace hbox0 := hbox0.up hb2
    replace yhbox0 := hbox0.two
    replace zhbox0 := fun o => (hbox0.alloc o).two
    replace lhbox0 := hbox0.lt
    go_wp2_with fail
    refine (specIsComparability_law (kas0.ri HX0.out) (by omega) fx0).mono ?_
    rintro e w3 ⟨rfl, hb3⟩
    have hw3 : Below w.heap.size w w3 := Up.then_ (by go_grown) hb3
    replace hx0 := hx0.up hb3
    replace hbox0 := hbox0.up hb3
    replace kas0 := kas0.up hb3
    replace yhbox0 := hbox0.two
    replace zhbox0 := fun o => (hbox0.alloc o).two
    replace lhbox0 := hbox0.lt
    go_wp2_with fail
    refine (toGraph_any _ _ _ _ _ _ hx0 (by omega)).mono ?_
    rintro e w4 ⟨gax0, rfl, hgx0, kax0, hb4⟩
    have hw4 : Below w.heap.size w w4 := Up.then_ (by go_grown) hb4
    replace hx0 := hx0.up hb4
    replace hbox0 := hbox0.up hb4
    replace kas0 := kas0.up hb4
    replace yhbox0 := hbox0.two
    replace zhbox0 := fun o => (hbox0.alloc o).two
    replace lhbox0 := hbox0.lt
    have hvar0 := Blk.new w4 27 #[.int .i64 N0, .slice (some ⟨gax0, 0, none⟩) n0 n0]
    go_wp2_with fail
    refine (implIsComparability_law ((kax0.alloc (.cells #[.int .i64 N0, .slice (some ⟨gax0, 0, none⟩) n0 n0] 27)).ri HX0.out) (by omega) fx0).mono ?_
    rintro e w5 ⟨rfl, hb5⟩
    have hw5 : Below w.heap.size w w5 := Up.then_ (by go_grown) hb5
    replace hx0 := (hx0.alloc (.cells #[.int .i64 N0, .slice (some ⟨gax0, 0, none⟩) n0 n0] 27)).up hb5
    replace hbox0 := (hbox0.alloc (.cells #[.int .i64 N0, .slice (some ⟨gax0, 0, none⟩) n0 n0] 27)).up hb5
    replace kas0 := (kas0.alloc (.cells #[.int .i64 N0, .slice (some ⟨gax0, 0, none⟩) n0 n0] 27)).up hb5
    replace kax0 := (kax0.alloc (.cells #[.int .i64 N0, .slice (some ⟨gax0, 0, none⟩) n0 n0] 27)).up hb5
    replace hvar0 := hvar0.up hb5
    replace yhbox0 := hbox0.two
    replace zhbox0 := fun o => (hbox0.alloc o).two
    replace lhbox0 := hbox0.lt
    have yhvar0 := hvar0.two
    have zhvar0 := fun o => (hvar0.alloc o).two
    have lhvar0 := hvar0.lt
    go_wp2
    have hU0 : Up w5 w5.drew := (Up.refl _).drew
    go_region_held3 (fun w' => Up w5 w' ∧ ∀ b o, b < w5.heap.size → w'.cell? ⟨b, o, none⟩ = w5.cell? ⟨b, o, none⟩) (first | exact upk hU2 | exact upk hU1 | exact upk hU0)
      (first | (go_at_call 16; refine (toGraph_any _ _ _ _ _ _ (hx0.up hU0) (by omega)).mono ?_; rintro e w6 ⟨gaz0, rfl, hgz0, kaz0, hb6⟩; have hU1 := Up.then_ hU0 hb6) | (go_at_call 18; refine (eqGraph_any _ _ _ _ _ _ _ _ _ _ _  ((kax0.up hU1).ri HX0.out) (kaz0.ri HX0.out) hn0).mono ?_; rintro e w7 ⟨rfl, hb7⟩; have hU2 := Up.then_ hU1 hb7))
    have hw7 : Below w.heap.size w w7 := Up.then_ hw5 hU2
    replace hx0 := hx0.up hU2
    replace hbox0 := hbox0.up hU2
    replace kas0 := kas0.up hU2
    replace kax0 := kax0.up hU2
    replace hvar0 := hvar0.up hU2
    replace yhbox0 := hbox0.two
    replace zhbox0 := fun o => (hbox0.alloc o).two
    replace lhbox0 := hbox0.lt
    replace yhvar0 := hvar0.two
    replace zhvar0 := fun o => (hvar0.alloc o).two
    replace lhvar0 := hvar0.lt
    clear hU0 hU1 hU2
    go_wp2
    go_ret
    exact ⟨rfl, hw7⟩
  · go_enter Try.func10, Try.ntmps10
    have hbox0 := Blk.new w 24 #[.int .i64 N0, .slice A0 n0 c0]
    go_wp2_with fail
    refine (szGraph_big _ _ _ _ _ _ (by omega) (by omega) (by omega) hn0).mono ?_
    rintro e w1 ⟨rfl, hb1⟩
    have hw1 : Below w.heap.size w w1 := Up.then_ (by go_grown) hb1
    replace hx0 := (hx0.alloc (.cells #[.int .i64 N0, .slice A0 n0 c0] 24)).up hb1
    replace hbox0 := hbox0.up hb1
    have yhbox0 := hbox0.two
    have zhbox0 := fun o => (hbox0.alloc o).two
    have lhbox0 := hbox0.lt
    go_wp2
    go_ret
    exact ⟨rfl, hw1⟩

open Go.ChangeShapes Go.WideShapes Go.ChangeAt Go.Joins Go.Deep in
set_option maxRecDepth 100000 in
theorem lawIsComparability_lifted (os : Os) (started : os.Started) (H : Type) (enc : TypeId × Value → H) :
    ReturnsInHanded {} Try.checked os 10 .any (Rows.fnExactIsComparabilitySpec.pre6 enc Try.prog Try.f10 Rows.fnExactIsComparabilityRow.domain false) (Rows.fnExactIsComparabilitySpec.post enc Try.prog Try.f10 false true false false) := by
  refine returnsInHanded_of_change (C := Try.checked) Try.own_law started (by kernel_rfl) Try.func10
    (ChangeSpec.witness6 (enc := enc) (C := Try.checked) false ⟨#[], #[.agg #[.int .i64 0, .slice none 0 0]], []⟩ 8 (by kernel_rfl) (by kernel_rfl) (by kernel_rfl) (by kernel_rfl)) ?_
  intro W base args ds gs before hval0 hW _ _
  have hval : ∀ (j : Nat) t v, Try.f10.params[j]? = some t → args[j]? = some v → Value.okWide Try.prog W .any base t v := hval0
  have hW' := hW
  obtain ⟨p, q, hA0, hV, rfl, _, _⟩ := hW
  have hA : DataW.TrodAll enc Try.prog W 0 (fun _ => true) true Try.f10.params.toList args.toList ds p := hA0
  rw [Try.params10] at hA hval
  obtain ⟨v0, vs0, d0, ds0, p0, q0, hargs, rfl, rfl, h0, r0⟩ := trodAll_cons hA
  obtain ⟨rfl, rfl, rfl⟩ := trodAll_nil r0
  obtain rfl : args = #[v0] := by cases args; simp_all
  obtain ⟨rfl, rfl⟩ := trodVars_none hV
  have t0 := h0
  have lt0 : ∀ x ∈ p0, x.block < W.heap.size := by obtain ⟨m, hm⟩ := t0; exact DataW.trod_lt m _ _ _ hm
  obtain ⟨N0, A0, n0, c0, X0, rfl, hx0, hn0, fx0⟩ := open_nI Try.underlying24 (by kernel_rfl) (by kernel_rfl) rfl rfl Try.underlying22 Try.underlying3 (by kernel_rfl) (hval 0 24 v0 rfl rfl) h0
  refine (lawIsComparability_any N0 A0 n0 c0 X0 W hx0 hn0 fx0).mono fun e W' ⟨he, bel⟩ => ?_
  subst he
  exact ⟨_, rfl, _, _, _, [], _, [], hW', trodAll_mk1 (shut_bool Try.underlying4 _), (trodAll_cons_mk (Below.trod Try.laidOut_law (by kernel_rfl) (of_decide_eq_true (by kernel_rfl)) t0 bel lt0) trodAll_mk0), rfl, bel.frame _, fun h => by cases h⟩

theorem lawIsComparability_holds : Rows.FnExactIsComparabilitySaid :=
  OpenClaim.holds_of_wide 10 Try.f10 rfl rfl rfl rfl rfl rfl rfl ⟨rfl, rfl, rfl, rfl, rfl⟩ rfl rfl rfl rfl rfl (by kernel_rfl) Try.func10 (by kernel_rfl)
    (of_decide_eq_true (by kernel_rfl)) (by unfold Func.isWrapper; first | (rw [if_pos (by decide +kernel)]; kernel_rfl) | (rw [if_neg (by decide +kernel)]; exact ⟨rfl, rfl⟩))
    (fun os started H enc _ => lawIsComparability_lifted os started H enc)
#print axioms lawIsComparability_holds
end Go.Proofs.Ytlcmfangecbdgaa
