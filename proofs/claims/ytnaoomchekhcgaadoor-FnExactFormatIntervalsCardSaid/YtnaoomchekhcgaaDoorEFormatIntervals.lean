/- The law FnExactFormatIntervals: for all arguments the program's FormatIntervals returns what the reference's returns, and leaves its arguments alone. -/
import Derived.Test.YtnaoomchekhcgaaDoorRow
import Derived.Test.YtnaoomchekhcgaaDoorCards
import Derived.Test.YtnaoomchekhcgaaDoorTie
import Derived.SevenTiedAt
import Derived.LaidMore
import Derived.Stop.Joined
import Derived.Test.YtnaoomchekhcgaaDoorConFormatIntervals
import Derived.Deep.RegionHeld3
namespace Go.Proofs.YtnaoomchekhcgaaDoor
open Go.RowKit

set_option maxRecDepth 100000 in
set_option maxHeartbeats 4000000 in
theorem lawFormatIntervals_any (A0 : Option Addr) (n0 c0 : Nat) (X0 : List Int) (B0 : Option Addr) (m0 d0 : Nat) (Y0 : List Int) (w : World) (hx0 : RI w A0 n0 X0) (hy0 : RI w B0 m0 Y0) (hn0 : n0 ≤ 9223372036854775807) (hm0 : m0 ≤ 9223372036854775807) (fx0 : Fits X0) (fy0 : Fits Y0) :
    Calls Tryd.prog 4 #[.agg #[.slice A0 n0 c0, .slice B0 m0 d0]] w fun e w' => e = .returned (.bool true) ∧ Below w.heap.size w w' := by
  have HX0 := Lib.hid hx0.1
  have HY0 := Lib.hid hy0.1
  by_cases hs : n0 + m0 ≤ 1048576
  · have _hs0 := hs
    go_enter Tryd.func4, Tryd.ntmps4
    have hbox0 := Blk.new w 32 #[.slice A0 n0 c0, .slice B0 m0 d0]
    go_wp2_with fail
    refine (szIntervals_ok _ _ _ _ _ _ _ _ (by omega) (by omega)).mono ?_
    rintro e w1 ⟨rfl, hb1⟩
    have hw1 : Below w.heap.size w w1 := Up.then_ (by go_grown) hb1
    replace hx0 := (hx0.alloc (.cells #[.slice A0 n0 c0, .slice B0 m0 d0] 32)).up hb1
    replace hy0 := (hy0.alloc (.cells #[.slice A0 n0 c0, .slice B0 m0 d0] 32)).up hb1
    replace hbox0 := hbox0.up hb1
    have yhbox0 := hbox0.two
    have zhbox0 := fun o => (hbox0.alloc o).two
    have lhbox0 := hbox0.lt
    go_wp2_with fail
    refine (toIntervals_any _ _ _ _ _ _ _ _ _ hx0 hy0 (by omega) (by omega)).mono ?_
    rintro e w2 ⟨gas0, gbs0, rfl, hgs0, hggs0, kas0, kbs0, hb2⟩
    have hw2 : Below w.heap.size w w2 := Up.then_ (by go_grown) hb2
    replace hx0 := hx0.up hb2
    replace hy0 := hy0.up hb2
    replace hbox0 := hbox0.up hb2
    replace yhbox0 := hbox0.two
    replace zhbox0 := fun o => (hbox0.alloc o).two
    replace lhbox0 := hbox0.lt
    go_wp2_with fail
    refine (specFormatIntervals_law (kas0.ri HX0.out) (kbs0.ri HY0.out) (by omega) (by omega) fx0 fy0).mono ?_
    rintro e w3 ⟨rfl, hb3⟩
    have hw3 : Below w.heap.size w w3 := Up.then_ (by go_grown) hb3
    replace hx0 := hx0.up hb3
    replace hy0 := hy0.up hb3
    replace hbox0 := hbox0.up hb3
    replace kas0 := kas0.up hb3
    replace kbs0 := kbs0.up hb3
    replace yhbox0 := hbox0.two
    replace zhbox0 := fun o => (hbox0.alloc o).two
    replace lhbox0 := hbox0.lt
    go_wp2_with fail
    refine (toIntervals_any _ _ _ _ _ _ _ _ _ hx0 hy0 (by omega) (by omega)).mono ?_
    rintro e w4 ⟨gax0, gbx0, rfl, hgx0, hggx0, kax0, kbx0, hb4⟩
    have hw4 : Below w.heap.size w w4 := Up.then_ (by go_grown) hb4
    replace hx0 := hx0.up hb4
    replace hy0 := hy0.up hb4
    replace hbox0 := hbox0.up hb4
    replace kas0 := kas0.up hb4
    replace kbs0 := kbs0.up hb4
    replace yhbox0 := hbox0.two
    replace zhbox0 := fun o => (hbox0.alloc o).two
    replace lhbox0 := hbox0.lt
    have hvar0 := Blk.new w4 35 #[.slice (some ⟨gax0, 0, none⟩) n0 n0, .slice (some ⟨gbx0, 0, none⟩) m0 m0]
    go_wp2_with fail
    refine (implFormatIntervals_law ((kax0.alloc (.cells #[.slice (some ⟨gax0, 0, none⟩) n0 n0, .slice (some ⟨gbx0, 0, none⟩) m0 m0] 35)).ri HX0.out) ((kbx0.alloc (.cells #[.slice (some ⟨gax0, 0, none⟩) n0 n0, .slice (some ⟨gbx0, 0, none⟩) m0 m0] 35)).ri HY0.out) (by omega) (by omega) fx0 fy0).mono ?_
    rintro e w5 ⟨rfl, hb5⟩
    have hw5 : Below w.heap.size w w5 := Up.then_ (by go_grown) hb5
    replace hx0 := (hx0.alloc (.cells #[.slice (some ⟨gax0, 0, none⟩) n0 n0, .slice (some ⟨gbx0, 0, none⟩) m0 m0] 35)).up hb5
    replace hy0 := (hy0.alloc (.cells #[.slice (some ⟨gax0, 0, none⟩) n0 n0, .slice (some ⟨gbx0, 0, none⟩) m0 m0] 35)).up hb5
    replace hbox0 := (hbox0.alloc (.cells #[.slice (some ⟨gax0, 0, none⟩) n0 n0, .slice (some ⟨gbx0, 0, none⟩) m0 m0] 35)).up hb5
    replace kas0 := (kas0.alloc (.cells #[.slice (some ⟨gax0, 0, none⟩) n0 n0, .slice (some ⟨gbx0, 0, none⟩) m0 m0] 35)).up hb5
    replace kbs0 := (kbs0.alloc (.cells #[.slice (some ⟨gax0, 0, none⟩) n0 n0, .slice (some ⟨gbx0, 0, none⟩) m0 m0] 35)).up hb5
    replace kax0 := (kax0.alloc (.cells #[.slice (some ⟨gax0, 0, none⟩) n0 n0, .slice (some ⟨gbx0, 0, none⟩) m0 m0] 35)).up hb5
    replace kbx0 := (kbx0.alloc (.cells #[.slice (some ⟨gax0, 0, none⟩) n0 n0, .slice (some ⟨gbx0, 0, none⟩) m0 m0] 35)).up hb5
    replace hvar0 := hvar0.up hb5
    replace yhbox0 := hbox0.two
    replace zhbox0 := fun o => (hbox0.alloc o).two
    replace lhbox0 := hbox0.lt
    have yhvar0 := hvar0.two
    have zhvar0 := fun o => (hvar0.alloc o).two
    have lhvar0 := hvar0.lt
    go_wp2
    have hU0 : Up w5 w5.drew := (Up.refl _).drew
    go_region_held3 (fun w' => Up w5 w' ∧ ∀ b o, b < w5.heap.size → w'.cell? ⟨b, o, none⟩ = w5.cell? ⟨b, o, none⟩) (first | exact upk hU2 | exact upk hU1 | exact upk hU0)
      (first | (go_at_call 12; refine (toIntervals_any _ _ _ _ _ _ _ _ _ (hx0.up hU0) (hy0.up hU0) (by omega) (by omega)).mono ?_; rintro e w6 ⟨gaz0, gbz0, rfl, hgz0, hggz0, kaz0, kbz0, hb6⟩; have hU1 := Up.then_ hU0 hb6) | (go_at_call 14; refine (eqIntervals_any _ _ _ _ _ _ _ _ _ _ _ _ _ _ _ _ _  ((kax0.up hU1).ri HX0.out) ((kbx0.up hU1).ri HY0.out) (kaz0.ri HX0.out) (kbz0.ri HY0.out) hn0 hm0).mono ?_; rintro e w7 ⟨rfl, hb7⟩; have hU2 := Up.then_ hU1 hb7))
    have hw7 : Below w.heap.size w w7 := Up.then_ hw5 hU2
    replace hx0 := hx0.up hU2
    replace hy0 := hy0.up hU2
    replace hbox0 := hbox0.up hU2
    replace kas0 := kas0.up hU2
    replace kbs0 := kbs0.up hU2
    replace kax0 := kax0.up hU2
    replace kbx0 := kbx0.up hU2
    replace hvar0 := hvar0.up hU2
    replace yhbox0 := hbox0.two
    replace zhbox0 := fun o => (hbox0.alloc o).two
    replace lhbox0 := hbox0.lt
    replace yhvar0 := hvar0.two
    replace zhvar0 := fun o => (hvar0.alloc o).two
    replace lhvar0 := hvar0.lt
    clear hU0 hU1 hU2
    go_wp2
    go_ret
    exact ⟨rfl, hw7⟩
  · go_enter Tryd.func4, Tryd.ntmps4
    have hbox0 := Blk.new w 32 #[.slice A0 n0 c0, .slice B0 m0 d0]
    go_wp2_with fail
    refine (szIntervals_big _ _ _ _ _ _ _ _ (by omega) (by omega) (by omega) hn0 hm0).mono ?_
    rintro e w1 ⟨rfl, hb1⟩
    have hw1 : Below w.heap.size w w1 := Up.then_ (by go_grown) hb1
    replace hx0 := (hx0.alloc (.cells #[.slice A0 n0 c0, .slice B0 m0 d0] 32)).up hb1
    replace hy0 := (hy0.alloc (.cells #[.slice A0 n0 c0, .slice B0 m0 d0] 32)).up hb1
    replace hbox0 := hbox0.up hb1
    have yhbox0 := hbox0.two
    have zhbox0 := fun o => (hbox0.alloc o).two
    have lhbox0 := hbox0.lt
    go_wp2
    go_ret
    exact ⟨rfl, hw1⟩

open Go.ChangeShapes Go.WideShapes Go.ChangeAt in
/-- The door's own heap meets the condition on the listed tables: closed facts. -/
theorem door_metFormatIntervals (os : Os) (args : Array Value) : laidMetH Tryd.prog Rows.fnExactFormatIntervalsRow.laid ((World.doorLaid Tryd.prog 400 os).forCall (fun _ _ => 0) ⟨#[], args, []⟩).memory :=
  laidMetH_of_parts3 (fuel := 8) (laidMet_of_run' 8 (by kernel_rfl) (by kernel_rfl)) (by kernel_rfl) (by kernel_rfl)

open Go.ChangeShapes Go.WideShapes Go.ChangeAt Go.Joins Go.Deep in
set_option maxRecDepth 100000 in
theorem lawFormatIntervals_lifted (os : Os) (started : os.Started) (H : Type) (enc : TypeId × Value → H) :
    ReturnsInHanded {} Tryd.checked os 4 .any (fun w args => (Rows.fnExactFormatIntervalsSpec.pre enc Tryd.prog Tryd.f4 [] false w args ∧ laidMetH Tryd.prog Rows.fnExactFormatIntervalsRow.laid w) ∧ sizedMet enc Tryd.prog Tryd.f4 (OpenSpec.ofChange Rows.fnExactFormatIntervalsSpec) false w args) (Rows.fnExactFormatIntervalsSpec.post enc Tryd.prog Tryd.f4 false true false false) := by
  refine returnsInHanded_of_change_and (C := Tryd.checked) (X := (fun w _ => laidMetH Tryd.prog Rows.fnExactFormatIntervalsRow.laid w)) (fun _ _ _ hh h => h.of_heap hh) Tryd.own_law started (by kernel_rfl) Tryd.func4
    (ChangeSpec.witness_shaped (enc := enc) (C := Tryd.checked) (os := os) (X := (fun w _ => laidMetH Tryd.prog Rows.fnExactFormatIntervalsRow.laid w)) false (World.doorLaid Tryd.prog 400 os) #[.agg #[.slice none 0 0, .slice none 0 0]] 8 rfl (World.shaped_of_RefB (by kernel_rfl) (by kernel_rfl)) (by kernel_rfl) (by kernel_rfl) (by kernel_rfl) (door_metFormatIntervals os _)) ?_
  intro W base args ds gs before hval0 hW _ _ _ _
  have hval : ∀ (j : Nat) t v, Tryd.f4.params[j]? = some t → args[j]? = some v → Value.okWide Tryd.prog W .any base t v := hval0
  have hW' := hW
  obtain ⟨p, q, hA0, hV, rfl, _, _⟩ := hW
  have hA : DataW.TrodAll enc Tryd.prog W 0 (fun _ => true) true Tryd.f4.params.toList args.toList ds p := hA0
  rw [Tryd.params4] at hA hval
  obtain ⟨v0, vs0, d0, ds0, p0, q0, hargs, rfl, rfl, h0, r0⟩ := trodAll_cons hA
  obtain ⟨rfl, rfl, rfl⟩ := trodAll_nil r0
  obtain rfl : args = #[v0] := by cases args; simp_all
  obtain ⟨rfl, rfl⟩ := trodVars_none hV
  have t0 := h0
  have lt0 : ∀ x ∈ p0, x.block < W.heap.size := by obtain ⟨m, hm⟩ := t0; exact DataW.trod_lt m _ _ _ hm
  obtain ⟨A0, n0, c0, X0, B0, m0, d0, Y0, rfl, hx0, hy0, hn0, hm0, fx0, fy0⟩ := open_II Tryd.underlying32 (by kernel_rfl) (by kernel_rfl) rfl rfl Tryd.underlying22 Tryd.underlying3 (by kernel_rfl) (hval 0 32 v0 rfl rfl) h0
  refine (lawFormatIntervals_any A0 n0 c0 X0 B0 m0 d0 Y0 W hx0 hy0 hn0 hm0 fx0 fy0).mono fun e W' ⟨he, bel⟩ => ?_
  subst he
  exact ⟨_, rfl, _, _, _, [], _, [], hW', trodAll_mk1 (shut_bool Tryd.underlying4 _), (trodAll_cons_mk (Below.trod Tryd.laidOut_law (by kernel_rfl) (of_decide_eq_true (by kernel_rfl)) t0 bel lt0) trodAll_mk0), rfl, bel.frame _, fun h => by cases h⟩

theorem lawFormatIntervals_row : Rows.FnExactFormatIntervalsSaid :=
  OpenClaim.holds_of_wide 4 Tryd.f4 rfl rfl rfl rfl rfl rfl rfl ⟨rfl, rfl, rfl, rfl, rfl⟩ rfl rfl rfl rfl rfl (by kernel_rfl) Tryd.func4 (by kernel_rfl)
    (of_decide_eq_true (by kernel_rfl)) (by unfold Func.isWrapper; first | (rw [if_pos (by decide +kernel)]; kernel_rfl) | (rw [if_neg (by decide +kernel)]; exact ⟨rfl, rfl⟩))
    (fun os started H enc _ => lawFormatIntervals_lifted os started H enc)
/-- The tied card. -/
theorem lawFormatIntervals_holds : Rows.FnExactFormatIntervalsCardSaid :=
  Claim7.holds_tied_plain_at .later [] [.data, .data, .data] true (true, "12a0a5c6aaa946d7907ac72036fd22cf99bdd72cad6db1bb3938fd6bc5bfc35b") false
    lawFormatIntervals_row (fun _ h => by cases h) (by kernel_rfl) (fun _ h => by cases h) fnExactFormatIntervals_row_tie rfl ⟨rfl, rfl⟩ (by kernel_rfl) rfl
    (fun f fn hf hfn => by
      obtain rfl : f = 4 := Option.some.inj ((show Tryd.prog.funcNamed "loop.example/g02081/laws.FnExactFormatIntervals" = some 4 by kernel_rfl).symm.trans hf) |>.symm
      obtain rfl : fn = Tryd.f4 := (Option.some.inj (Tryd.func4.symm.trans hfn)).symm
      exact ⟨by kernel_rfl, fun j t ht => by
        rw [Tryd.params4] at ht
        have hm : t ∈ [32] := by simpa using Array.mem_of_getElem? ht
        have hall : ([32].all fun u => !Tryd.prog.wantsStandIn u) = true := by kernel_rfl
        exact (show Tryd.prog.wantsStandIn t = false by simpa using List.all_eq_true.1 hall t hm)⟩)
    (by kernel_rfl)
#print axioms lawFormatIntervals_holds
end Go.Proofs.YtnaoomchekhcgaaDoor
