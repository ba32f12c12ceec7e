/- The law FnExactForcedArcs: for all arguments the program's ForcedArcs returns what the reference's returns, and leaves its arguments alone. -/
import Derived.Test.YtlcmfangecbdgaaRow
import Derived.Test.YtlcmfangecbdgaaLaw5
import Derived.Test.YtlcmfangecbdgaaLaw4
import Derived.Test.YtlcmfangecbdgaaConForcedArcs
import Derived.Deep.RegionHeld3
namespace Go.Proofs.Ytlcmfangecbdgaa
open Go.RowKit

set_option maxRecDepth 100000 in
set_option maxHeartbeats 8000000 in
theorem lawForcedArcs_any (N0 : Int) (A0 : Option Addr) (n0 c0 : Nat) (X0 : List Int) (x1 : Int) (x2 : Int) (w : World) (hx0 : RI w A0 n0 X0) (hn0 : n0 ≤ 9223372036854775807) (fx0 : Fits X0) (fi1 : -9223372036854775808 ≤ x1 ∧ x1 ≤ 9223372036854775807) (fi2 : -9223372036854775808 ≤ x2 ∧ x2 ≤ 9223372036854775807) :
    Calls Try.prog 6 #[.agg #[.int .i64 N0, .slice A0 n0 c0], .int .i64 x1, .int .i64 x2] w fun e w' => e = .returned (.bool true) ∧ Below w.heap.size w w' := by
  have HX0 := Lib.hid hx0.1
  by_cases hs : n0 ≤ 1048576
  · have _hs0 := hs
    go_enter Try.func6, Try.ntmps6
    have hbox0 := Blk.new w 24 #[.int .i64 N0, .slice A0 n0 c0]
    go_wp2_with fail
    refine (szGraph_ok _ _ _ _ _ _ (by omega) (by omega)).mono ?_
    rintro e w1 ⟨rfl, hb1⟩
    have hU1 : Up w w1 := Up.then_ (by go_grown) hb1
    have hw1 : Below w.heap.size w w1 := hU1
    have hs1 := hU1.size
    replace hx0 := hx0.up hU1
    replace hbox0 := hbox0.up hb1
    have yhbox0 := hbox0.two
    have zhbox0 := fun o => (hbox0.alloc o).two
    have lhbox0 := hbox0.lt
    go_wp2_with fail
    refine (toGraph_any _ _ _ _ _ _ (hx0.up (by go_grown)) (by omega)).mono ?_
    rintro e w2 ⟨gas0, rfl, hgs0, kas0, hb2⟩
    have hU2 : Up w1 w2 := Up.then_ (by go_grown) hb2
    have hw2 : Below w.heap.size w w2 := Up.then_ hw1 hU2
    have hs2 := hU2.size
    replace hx0 := hx0.up hU2
    replace hbox0 := hbox0.up hU2
    replace yhbox0 := hbox0.two
    replace zhbox0 := fun o => (hbox0.alloc o).two
    replace lhbox0 := hbox0.lt
    go_wp2_with fail
    refine (specForcedArcs_law (kas0.ri HX0.out) (by omega) fx0 fi1 fi2).mono ?_
    rintro e w3 ⟨Aw, cw, qw, hqw, rfl, how, hb3⟩
    have hU3 : Up w2 w3 := Up.then_ (by go_grown) hb3
    have hw3 : Below w.heap.size w w3 := Up.then_ hw2 hU3
    have hs3 := hU3.size
    replace hx0 := hx0.up hU3
    replace hbox0 := hbox0.up hU3
    replace kas0 := kas0.up hU3
    replace yhbox0 := hbox0.two
    replace zhbox0 := fun o => (hbox0.alloc o).two
    replace lhbox0 := hbox0.lt
    obtain ⟨hlen, hlen2⟩ := resForcedArcs_len N0 X0 x1 x2
    have ohx0 := hx0
    have ohow := how
    have ohbox0 := hbox0
    have hX : Up w3 w3 := Up.refl _
    go_wp2_with fail
    refine (toGraph_any _ _ _ _ _ _ (hx0.up (by go_grown)) (by omega)).mono ?_
    rintro e w4 ⟨gax0, rfl, hgx0, kax0, hb4⟩
    have hU4 : Up w3 w4 := Up.then_ (by go_grown) hb4
    replace hX := Up.then_ hX hU4
    have hw4 : Below w.heap.size w w4 := Up.then_ hw3 hU4
    have hs4 := hU4.size
    replace hx0 := hx0.up hU4
    replace how := how.up hU4
    replace hbox0 := hbox0.up hU4
    replace yhbox0 := hbox0.two
    replace zhbox0 := fun o => (hbox0.alloc o).two
    replace lhbox0 := hbox0.lt
    have l0kax0 := kax0.lt
    try simp only [World.size_alloc] at hgx0
    have hvar0 := Blk.new w4 27 #[.int .i64 N0, .slice (some ⟨gax0, 0, none⟩) n0 n0]
    go_wp2_with fail
    refine (implForcedArcs_law ((kax0.alloc _).ri HX0.out) (by omega) fx0 fi1 fi2).mono ?_
    rintro e w5 ⟨Ag, cg, qg, hqg, rfl, hog, hb5⟩
    have hU5 : Up w4 w5 := Up.then_ (by go_grown) hb5
    replace hX := Up.then_ hX hU5
    have hw5 : Below w.heap.size w w5 := Up.then_ hw4 hU5
    have hs5 := hU5.size
    replace hx0 := hx0.up hU5
    replace how := how.up hU5
    replace hbox0 := hbox0.up hU5
    replace kax0 := kax0.up hU5
    replace hvar0 := hvar0.up hb5
    replace yhbox0 := hbox0.two
    replace zhbox0 := fun o => (hbox0.alloc o).two
    replace lhbox0 := hbox0.lt
    have yhvar0 := hvar0.two
    have zhvar0 := fun o => (hvar0.alloc o).two
    have lhvar0 := hvar0.lt
    replace hog := hog.more (base' := w4.heap.size) (by simp)
    have bhog := hog.block
    go_wp2_with fail
    refine (eqIntSS_yes hog how (hqg.trans hqw.symm) (totS_le hqg hlen) (numS_le hqg hlen2)).mono ?_
    rintro e w6 ⟨rfl, hb6⟩
    have hU6 : Up w5 w6 := Up.then_ (by go_grown) hb6
    replace hX := Up.then_ hX hU6
    have hw6 : Below w.heap.size w w6 := Up.then_ hw5 hU6
    have hs6 := hU6.size
    replace hx0 := hx0.up hU6
    replace how := how.up hU6
    replace hog := hog.up hU6
    replace hbox0 := hbox0.up hU6
    replace kax0 := kax0.up hU6
    replace hvar0 := hvar0.up hU6
    replace yhbox0 := hbox0.two
    replace zhbox0 := fun o => (hbox0.alloc o).two
    replace lhbox0 := hbox0.lt
    replace yhvar0 := hvar0.two
    replace zhvar0 := fun o => (hvar0.alloc o).two
    replace lhvar0 := hvar0.lt
    go_wp2
    have hV0 : Up w6 w6.drew := (Up.refl _).drew
    go_region_held3 (fun w' => Up w6 w' ∧ ∀ b o, b < w6.heap.size → w'.cell? ⟨b, o, none⟩ = w6.cell? ⟨b, o, none⟩) (first | exact upk hV2 | exact upk hV1 | exact upk hV0)
      (first | (go_at_call 16; refine (toGraph_any _ _ _ _ _ _ (hx0.up hV0) (by omega)).mono ?_; rintro e w7 ⟨gaz0, rfl, hgz0, kaz0, hb7⟩; have hV1 := Up.then_ hV0 hb7) | (go_at_call 18; refine (eqGraph_any _ _ _ _ _ _ _ _ _ _ _  ((kax0.up hV1).ri HX0.out) (kaz0.ri HX0.out) hn0).mono ?_; rintro e w8 ⟨rfl, hb8⟩; have hV2 := Up.then_ hV1 hb8))
    have hU8 := hV2
    clear hV0 hV1 hV2
    replace hX := Up.then_ hX hU8
    have hw8 : Below w.heap.size w w8 := Up.then_ hw6 hU8
    have hs8 := hU8.size
    replace hx0 := hx0.up hU8
    replace how := how.up hU8
    replace hog := hog.up hU8
    replace hbox0 := hbox0.up hU8
    replace kax0 := kax0.up hU8
    replace hvar0 := hvar0.up hU8
    replace yhbox0 := hbox0.two
    replace zhbox0 := fun o => (hbox0.alloc o).two
    replace lhbox0 := hbox0.lt
    replace yhvar0 := hvar0.two
    replace zhvar0 := fun o => (hvar0.alloc o).two
    replace lhvar0 := hvar0.lt
    go_wp2_with fail
    refine (markGraph_any _ _ _ _ (1) gax0 _ _ (OwnI.of_blk kax0 HX0.out (by omega)) (by omega) (by omega)).mono ?_
    rintro e w9 ⟨rfl, hg9⟩
    replace hg9 : w8.grownBy w9 (some gax0) := hg9
    replace hX := hX.grown hg9 hX.size (fun k hk => by simp at hk; omega)
    have hw9 : Below w.heap.size w w9 := hw8.grown hg9 hw8.size (fun k hk => by have := hw3.size; simp at hk; omega)
    have hs9 := hg9.size
    replace hog := hog.kept_lt hg9 (by omega)
    replace hx0 := ohx0.up hX
    replace how := ohow.up hX
    replace hbox0 := ohbox0.up hX
    replace yhbox0 := hbox0.two
    replace zhbox0 := fun o => (hbox0.alloc o).two
    replace lhbox0 := hbox0.lt
    go_wp2_with fail
    refine (eqIntSS_yes hog how (hqg.trans hqw.symm) (totS_le hqg hlen) (numS_le hqg hlen2)).mono ?_
    rintro e w10 ⟨rfl, hb10⟩
    have hU10 : Up w9 w10 := Up.then_ (by go_grown) hb10
    replace hX := Up.then_ hX hU10
    have hw10 : Below w.heap.size w w10 := Up.then_ hw9 hU10
    have hs10 := hU10.size
    replace hx0 := hx0.up hU10
    replace how := how.up hU10
    replace hog := hog.up hU10
    replace hbox0 := hbox0.up hU10
    replace yhbox0 := hbox0.two
    replace zhbox0 := fun o => (hbox0.alloc o).two
    replace lhbox0 := hbox0.lt
    go_wp2_with fail
    refine (markIntSS_any 1 hog (by omega) (totS_le hqg hlen) (numS_le hqg hlen2) (by omega)).mono ?_
    rintro e w11 ⟨rfl, hom, hg11⟩
    replace hX := hX.trans (hg11.mono (by omega))
    have hw11 : Below w.heap.size w w11 := hw10.trans (hg11.mono (by omega))
    have hs11 := hg11.size
    replace hog := hom
    clear hom
    replace hx0 := ohx0.up hX
    replace how := ohow.up hX
    replace hbox0 := ohbox0.up hX
    replace yhbox0 := hbox0.two
    replace zhbox0 := fun o => (hbox0.alloc o).two
    replace lhbox0 := hbox0.lt
    go_wp2_with fail
    refine (heldIntSS_any 1 hog (by omega) (totS_le hqg hlen) (numS_le hqg hlen2)).mono ?_
    rintro e w12 ⟨rfl, hb12⟩
    have hU12 : Up w11 w12 := Up.then_ (by go_grown) hb12
    replace hX := Up.then_ hX hU12
    have hw12 : Below w.heap.size w w12 := Up.then_ hw11 hU12
    have hs12 := hU12.size
    replace hx0 := hx0.up hU12
    replace how := how.up hU12
    replace hog := hog.up hU12
    replace hbox0 := hbox0.up hU12
    replace yhbox0 := hbox0.two
    replace zhbox0 := fun o => (hbox0.alloc o).two
    replace lhbox0 := hbox0.lt
    go_wp2_with fail
    refine (toGraph_any _ _ _ _ _ _ (hx0.up (by go_grown)) (by omega)).mono ?_
    rintro e w13 ⟨gah0, rfl, hgh0, kah0, hb13⟩
    have hU13 : Up w12 w13 := Up.then_ (by go_grown) hb13
    replace hX := Up.then_ hX hU13
    have hw13 : Below w.heap.size w w13 := Up.then_ hw12 hU13
    have hs13 := hU13.size
    replace hx0 := hx0.up hU13
    replace how := how.up hU13
    replace hog := hog.up hU13
    replace hbox0 := hbox0.up hU13
    replace yhbox0 := hbox0.two
    replace zhbox0 := fun o => (hbox0.alloc o).two
    replace lhbox0 := hbox0.lt
    go_wp2_with fail
    refine (implForcedArcs_law (kah0.ri HX0.out) (by omega) fx0 fi1 fi2).mono ?_
    rintro e w14 ⟨Ah, ch, qh, hqh, rfl, hoh, hb14⟩
    have hU14 : Up w13 w14 := Up.then_ (by go_grown) hb14
    replace hX := Up.then_ hX hU14
    have hw14 : Below w.heap.size w w14 := Up.then_ hw13 hU14
    have hs14 := hU14.size
    replace hx0 := hx0.up hU14
    replace how := how.up hU14
    replace hog := hog.up hU14
    replace hbox0 := hbox0.up hU14
    replace kah0 := kah0.up hU14
    replace yhbox0 := hbox0.two
    replace zhbox0 := fun o => (hbox0.alloc o).two
    replace lhbox0 := hbox0.lt
    go_wp2_with fail
    refine (eqIntSS_yes hoh how (hqh.trans hqw.symm) (totS_le hqh hlen) (numS_le hqh hlen2)).mono ?_
    rintro e w15 ⟨rfl, hb15⟩
    have hU15 : Up w14 w15 := Up.then_ (by go_grown) hb15
    replace hX := Up.then_ hX hU15
    have hw15 : Below w.heap.size w w15 := Up.then_ hw14 hU15
    have hs15 := hU15.size
    replace hx0 := hx0.up hU15
    replace how := how.up hU15
    replace hog := hog.up hU15
    replace hoh := hoh.up hU15
    replace hbox0 := hbox0.up hU15
    replace yhbox0 := hbox0.two
    replace zhbox0 := fun o => (hbox0.alloc o).two
    replace lhbox0 := hbox0.lt
    go_wp2_with fail
    refine (heldIntSS_any 1 hog (by omega) (totS_le hqg hlen) (numS_le hqg hlen2)).mono ?_
    rintro e w16 ⟨rfl, hb16⟩
    have hU16 : Up w15 w16 := Up.then_ (by go_grown) hb16
    replace hX := Up.then_ hX hU16
    have hw16 : Below w.heap.size w w16 := Up.then_ hw15 hU16
    have hs16 := hU16.size
    replace hx0 := hx0.up hU16
    replace how := how.up hU16
    replace hog := hog.up hU16
    replace hoh := hoh.up hU16
    replace hbox0 := hbox0.up hU16
    replace yhbox0 := hbox0.two
    replace zhbox0 := fun o => (hbox0.alloc o).two
    replace lhbox0 := hbox0.lt
    go_wp2
    go_ret
    exact ⟨rfl, hw16⟩
  · go_enter Try.func6, Try.ntmps6
    have hbox0 := Blk.new w 24 #[.int .i64 N0, .slice A0 n0 c0]
    go_wp2_with fail
    refine (szGraph_big _ _ _ _ _ _ (by omega) (by omega) (by omega) hn0).mono ?_
    rintro e w1 ⟨rfl, hb1⟩
    have hU1 : Up w w1 := Up.then_ (by go_grown) hb1
    have hw1 : Below w.heap.size w w1 := hU1
    have hs1 := hU1.size
    replace hx0 := hx0.up hU1
    replace hbox0 := hbox0.up hb1
    have yhbox0 := hbox0.two
    have zhbox0 := fun o => (hbox0.alloc o).two
    have lhbox0 := hbox0.lt
    go_wp2
    go_ret
    exact ⟨rfl, hw1⟩


open Go.ChangeShapes Go.WideShapes Go.ChangeAt Go.Joins Go.Deep in
set_option maxRecDepth 100000 in
theorem lawForcedArcs_lifted (os : Os) (started : os.Started) (H : Type) (enc : TypeId × Value → H) :
    ReturnsInHanded {} Try.checked os 6 .any (Rows.fnExactForcedArcsSpec.pre6 enc Try.prog Try.f6 Rows.fnExactForcedArcsRow.domain false) (Rows.fnExactForcedArcsSpec.post enc Try.prog Try.f6 false true false false) := by
  refine returnsInHanded_of_change (C := Try.checked) Try.own_law started (by kernel_rfl) Try.func6
    (ChangeSpec.witness6 (enc := enc) (C := Try.checked) false ⟨#[], #[.agg #[.int .i64 0, .slice none 0 0], .int .i64 0, .int .i64 0], []⟩ 8 (by kernel_rfl) (by kernel_rfl) (by kernel_rfl) (by kernel_rfl)) ?_
  intro W base args ds gs before hval0 hW _ _
  have hval : ∀ (j : Nat) t v, Try.f6.params[j]? = some t → args[j]? = some v → Value.okWide Try.prog W .any base t v := hval0
  have hW' := hW
  obtain ⟨p, q, hA0, hV, rfl, _, _⟩ := hW
  have hA : DataW.TrodAll enc Try.prog W 0 (fun _ => true) true Try.f6.params.toList args.toList ds p := hA0
  rw [Try.params6] at hA hval
  obtain ⟨v0, vs0, d0, ds0, p0, q0, hargs, rfl, rfl, h0, r0⟩ := trodAll_cons hA
  obtain ⟨v1, vs1, d1, ds1, p1, q1, rfl, rfl, rfl, h1, r1⟩ := trodAll_cons r0
  obtain ⟨v2, vs2, d2, ds2, p2, q2, rfl, rfl, rfl, h2, r2⟩ := trodAll_cons r1
  obtain ⟨rfl, rfl, rfl⟩ := trodAll_nil r2
  obtain rfl : args = #[v0, v1, v2] := by cases args; simp_all
  obtain ⟨rfl, rfl⟩ := trodVars_none hV
  have t0 := h0
  have lt0 : ∀ x ∈ p0, x.block < W.heap.size := by obtain ⟨m, hm⟩ := t0; exact DataW.trod_lt m _ _ _ hm
  obtain ⟨N0, A0, n0, c0, X0, rfl, hx0, hn0, fx0⟩ := open_nI Try.underlying24 (by kernel_rfl) (by kernel_rfl) rfl rfl Try.underlying22 Try.underlying3 (by kernel_rfl) (hval 0 24 v0 rfl rfl) h0
  obtain ⟨x1, rfl, rfl, rfl, wx1⟩ := open_int Try.underlying3 (hval 1 3 v1 rfl rfl) h1
  have fi1 := wf_fits wx1
  obtain ⟨x2, rfl, rfl, rfl, wx2⟩ := open_int Try.underlying3 (hval 2 3 v2 rfl rfl) h2
  have fi2 := wf_fits wx2
  refine (lawForcedArcs_any N0 A0 n0 c0 X0 x1 x2 W hx0 hn0 fx0 fi1 fi2).mono fun e W' ⟨he, bel⟩ => ?_
  subst he
  exact ⟨_, rfl, _, _, _, [], _, [], hW', trodAll_mk1 (shut_bool Try.underlying4 _), (trodAll_cons_mk (Below.trod Try.laidOut_law (by kernel_rfl) (of_decide_eq_true (by kernel_rfl)) t0 bel lt0) (trodAll_cons_mk (shut_int Try.underlying3 wx1) (trodAll_cons_mk (shut_int Try.underlying3 wx2) trodAll_mk0))), rfl, bel.frame _, fun h => by cases h⟩

theorem lawForcedArcs_holds : Rows.FnExactForcedArcsSaid :=
  OpenClaim.holds_of_wide 6 Try.f6 rfl rfl rfl rfl rfl rfl rfl ⟨rfl, rfl, rfl, rfl, rfl⟩ rfl rfl rfl rfl rfl (by kernel_rfl) Try.func6 (by kernel_rfl)
    (of_decide_eq_true (by kernel_rfl)) (by unfold Func.isWrapper; first | (rw [if_pos (by decide +kernel)]; kernel_rfl) | (rw [if_neg (by decide +kernel)]; exact ⟨rfl, rfl⟩))
    (fun os started H enc _ => lawForcedArcs_lifted os started H enc)
#print axioms lawForcedArcs_holds
end Go.Proofs.Ytlcmfangecbdgaa
