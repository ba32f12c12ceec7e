/- The law FnExactTreeSeparators: for all arguments the program's TreeSeparators returns what the reference's returns, and leaves its arguments alone. -/
import Derived.Test.YtnaoomchekhcgaaRow
import Derived.Test.YtnaoomchekhcgaaLaw4
import Derived.Test.YtnaoomchekhcgaaConTreeSeparators
import Derived.Deep.RegionHeld3
namespace Go.Proofs.Ytnaoomchekhcgaa
open Go.RowKit

set_option maxRecDepth 100000 in
set_option maxHeartbeats 8000000 in
theorem lawTreeSeparators_any (A0 : Option Addr) (n0 c0 : Nat) (X0 : List Int) (B0 : Option Addr) (m0 d0 : Nat) (Y0 : List Int) (w : World) (hx0 : RI w A0 n0 X0) (hy0 : RI w B0 m0 Y0) (hn0 : n0 ≤ 9223372036854775807) (hm0 : m0 ≤ 9223372036854775807) (fx0 : Fits X0) (fy0 : Fits Y0) :
    Calls Try.prog 8 #[.agg #[.slice A0 n0 c0, .slice B0 m0 d0]] w fun e w' => e = .returned (.bool true) ∧ Below w.heap.size w w' := by
  have HX0 := Lib.hid hx0.1
  have HY0 := Lib.hid hy0.1
  by_cases hs : n0 + m0 ≤ 1048576
  · have _hs0 := hs
    go_enter Try.func8, Try.ntmps8
    have hbox0 := Blk.new w 49 #[.slice A0 n0 c0, .slice B0 m0 d0]
    go_wp2_with fail
    refine (szTree_ok _ _ _ _ _ _ _ _ (by omega) (by omega)).mono ?_
    rintro e w1 ⟨rfl, hb1⟩
    have hU1 : Up w w1 := Up.then_ (by go_grown) hb1
    have hw1 : Below w.heap.size w w1 := hU1
    have hs1 := hU1.size
    replace hx0 := hx0.up hU1
    replace hy0 := hy0.up hU1
    replace hbox0 := hbox0.up hb1
    have yhbox0 := hbox0.two
    have zhbox0 := fun o => (hbox0.alloc o).two
    have lhbox0 := hbox0.lt
    go_wp2_with fail
    refine (toTree_any _ _ _ _ _ _ _ _ _ (hx0.up (by go_grown)) (hy0.up (by go_grown)) (by omega) (by omega)).mono ?_
    rintro e w2 ⟨gas0, gbs0, rfl, hgs0, hggs0, kas0, kbs0, hb2⟩
    have hU2 : Up w1 w2 := Up.then_ (by go_grown) hb2
    have hw2 : Below w.heap.size w w2 := Up.then_ hw1 hU2
    have hs2 := hU2.size
    replace hx0 := hx0.up hU2
    replace hy0 := hy0.up hU2
    replace hbox0 := hbox0.up hU2
    replace yhbox0 := hbox0.two
    replace zhbox0 := fun o => (hbox0.alloc o).two
    replace lhbox0 := hbox0.lt
    go_wp2_with fail
    refine (specTreeSeparators_law (kas0.ri HX0.out) (kbs0.ri HY0.out) (by omega) (by omega) fx0 fy0).mono ?_
    rintro e w3 ⟨Aw, cw, rfl, how, hb3⟩
    have hU3 : Up w2 w3 := Up.then_ (by go_grown) hb3
    have hw3 : Below w.heap.size w w3 := Up.then_ hw2 hU3
    have hs3 := hU3.size
    replace hx0 := hx0.up hU3
    replace hy0 := hy0.up hU3
    replace hbox0 := hbox0.up hU3
    replace kas0 := kas0.up hU3
    replace kbs0 := kbs0.up hU3
    replace yhbox0 := hbox0.two
    replace zhbox0 := fun o => (hbox0.alloc o).two
    replace lhbox0 := hbox0.lt
    have hlen := resTreeSeparators_len X0 Y0
    have ohx0 := hx0
    have ohy0 := hy0
    have ohow := how
    have ohbox0 := hbox0
    have hX : Up w3 w3 := Up.refl _
    go_wp2_with fail
    refine (toTree_any _ _ _ _ _ _ _ _ _ (hx0.up (by go_grown)) (hy0.up (by go_grown)) (by omega) (by omega)).mono ?_
    rintro e w4 ⟨gax0, gbx0, rfl, hgx0, hggx0, kax0, kbx0, hb4⟩
    have hU4 : Up w3 w4 := Up.then_ (by go_grown) hb4
    replace hX := Up.then_ hX hU4
    have hw4 : Below w.heap.size w w4 := Up.then_ hw3 hU4
    have hs4 := hU4.size
    replace hx0 := hx0.up hU4
    replace hy0 := hy0.up hU4
    replace how := how.up hU4
    replace hbox0 := hbox0.up hU4
    replace yhbox0 := hbox0.two
    replace zhbox0 := fun o => (hbox0.alloc o).two
    replace lhbox0 := hbox0.lt
    have l0kax0 := kax0.lt
    have l0kbx0 := kbx0.lt
    try simp only [World.size_alloc] at hgx0
    have hvar0 := Blk.new w4 33 #[.slice (some ⟨gax0, 0, none⟩) n0 n0, .slice (some ⟨gbx0, 0, none⟩) m0 m0]
    go_wp2_with fail
    refine (implTreeSeparators_law ((kax0.alloc _).ri HX0.out) ((kbx0.alloc _).ri HY0.out) (by omega) (by omega) fx0 fy0).mono ?_
    rintro e w5 ⟨Ag, cg, rfl, hog, hb5⟩
    have hU5 : Up w4 w5 := Up.then_ (by go_grown) hb5
    replace hX := Up.then_ hX hU5
    have hw5 : Below w.heap.size w w5 := Up.then_ hw4 hU5
    have hs5 := hU5.size
    replace hx0 := hx0.up hU5
    replace hy0 := hy0.up hU5
    replace how := how.up hU5
    replace hbox0 := hbox0.up hU5
    replace kax0 := kax0.up hU5
    replace kbx0 := kbx0.up hU5
    replace hvar0 := hvar0.up hb5
    replace yhbox0 := hbox0.two
    replace zhbox0 := fun o => (hbox0.alloc o).two
    replace lhbox0 := hbox0.lt
    have yhvar0 := hvar0.two
    have zhvar0 := fun o => (hvar0.alloc o).two
    have lhvar0 := hvar0.lt
    replace hog := hog.more (base' := w4.heap.size) (by simp)
    have bhog := hog.block
    go_wp2_with fail
    refine (eqIntS_any _ _ _ _ _ _ _ _ _ hog.ri how.ri (by omega)).mono ?_
    rintro e w6 ⟨rfl, hb6⟩
    have hU6 : Up w5 w6 := Up.then_ (by go_grown) hb6
    replace hX := Up.then_ hX hU6
    have hw6 : Below w.heap.size w w6 := Up.then_ hw5 hU6
    have hs6 := hU6.size
    replace hx0 := hx0.up hU6
    replace hy0 := hy0.up hU6
    replace how := how.up hU6
    replace hog := hog.up hU6
    replace hbox0 := hbox0.up hU6
    replace kax0 := kax0.up hU6
    replace kbx0 := kbx0.up hU6
    replace hvar0 := hvar0.up hU6
    replace yhbox0 := hbox0.two
    replace zhbox0 := fun o => (hbox0.alloc o).two
    replace lhbox0 := hbox0.lt
    replace yhvar0 := hvar0.two
    replace zhvar0 := fun o => (hvar0.alloc o).two
    replace lhvar0 := hvar0.lt
    go_wp2
    have hV0 : Up w6 w6.drew := (Up.refl _).drew
    go_region_held3 (fun w' => Up w6 w' ∧ ∀ b o, b < w6.heap.size → w'.cell? ⟨b, o, none⟩ = w6.cell? ⟨b, o, none⟩) (first | exact upk hV2 | exact upk hV1 | exact upk hV0)
      (first | (go_at_call 36; refine (toTree_any _ _ _ _ _ _ _ _ _ (hx0.up hV0) (hy0.up hV0) (by omega) (by omega)).mono ?_; rintro e w7 ⟨gaz0, gbz0, rfl, hgz0, hggz0, kaz0, kbz0, hb7⟩; have hV1 := Up.then_ hV0 hb7) | (go_at_call 20; refine (eqTree_any _ _ _ _ _ _ _ _ _ _ _ _ _ _ _ _ _  ((kax0.up hV1).ri HX0.out) ((kbx0.up hV1).ri HY0.out) (kaz0.ri HX0.out) (kbz0.ri HY0.out) hn0 hm0).mono ?_; rintro e w8 ⟨rfl, hb8⟩; have hV2 := Up.then_ hV1 hb8))
    have hU8 := hV2
    clear hV0 hV1 hV2
    replace hX := Up.then_ hX hU8
    have hw8 : Below w.heap.size w w8 := Up.then_ hw6 hU8
    have hs8 := hU8.size
    replace hx0 := hx0.up hU8
    replace hy0 := hy0.up hU8
    replace how := how.up hU8
    replace hog := hog.up hU8
    replace hbox0 := hbox0.up hU8
    replace kax0 := kax0.up hU8
    replace kbx0 := kbx0.up hU8
    replace hvar0 := hvar0.up hU8
    replace yhbox0 := hbox0.two
    replace zhbox0 := fun o => (hbox0.alloc o).two
    replace lhbox0 := hbox0.lt
    replace yhvar0 := hvar0.two
    replace zhvar0 := fun o => (hvar0.alloc o).two
    replace lhvar0 := hvar0.lt
    go_wp2_with fail
    refine (markTree_any _ _ _ _ _ _ (1) gax0 gbx0 _ _ _ (OwnI.of_blk kax0 HX0.out (by omega)) (OwnI.of_blk kbx0 HY0.out (by omega)) (fun j e e2 => by simp [Value.ownBlock] at e e2; omega) (by omega) (by omega) (by omega)).mono ?_
    rintro e w9 ⟨rfl, _, _, wm9, hga9, hgb9⟩
    replace hga9 : w8.grownBy wm9 (some gax0) := hga9
    replace hgb9 : wm9.grownBy w9 (some gbx0) := hgb9
    replace hX := hX.grown hga9 hX.size (fun k hk => by simp at hk; omega)
    have hwm9 : Below w.heap.size w wm9 := hw8.grown hga9 hw8.size (fun k hk => by have := hw3.size; simp at hk; omega)
    have hsm9 := hga9.size
    replace hog := hog.kept hga9 (.inr (fun e => by have := bhog gax0 e; omega))
    replace hX := hX.grown hgb9 hX.size (fun k hk => by simp at hk; omega)
    have hw9 : Below w.heap.size w w9 := hwm9.grown hgb9 hwm9.size (fun k hk => by have := hw3.size; simp at hk; omega)
    have hs9 := hgb9.size
    replace hog := hog.kept hgb9 (.inr (fun e => by have := bhog gbx0 e; omega))
    replace hx0 := ohx0.up hX
    replace hy0 := ohy0.up hX
    replace how := ohow.up hX
    replace hbox0 := ohbox0.up hX
    replace yhbox0 := hbox0.two
    replace zhbox0 := fun o => (hbox0.alloc o).two
    replace lhbox0 := hbox0.lt
    go_wp2_with fail
    refine (eqIntS_any _ _ _ _ _ _ _ _ _ hog.ri how.ri (by omega)).mono ?_
    rintro e w10 ⟨rfl, hb10⟩
    have hU10 : Up w9 w10 := Up.then_ (by go_grown) hb10
    replace hX := Up.then_ hX hU10
    have hw10 : Below w.heap.size w w10 := Up.then_ hw9 hU10
    have hs10 := hU10.size
    replace hx0 := hx0.up hU10
    replace hy0 := hy0.up hU10
    replace how := how.up hU10
    replace hog := hog.up hU10
    replace hbox0 := hbox0.up hU10
    replace yhbox0 := hbox0.two
    replace zhbox0 := fun o => (hbox0.alloc o).two
    replace lhbox0 := hbox0.lt
    go_wp2_with fail
    refine (markIntS_any _ _ _ 1 _ _ _ hog (by omega) hlen).mono ?_
    rintro e w11 ⟨rfl, hom, hg11⟩
    replace hX := hX.grown hg11 hX.size (fun k hk => by have := (bhog k hk).1; omega)
    have hw11 : Below w.heap.size w w11 := hw10.grown hg11 hw10.size (fun k hk => by have := hw3.size; have := (bhog k hk).1; omega)
    have hs11 := hg11.size
    replace hog := hom
    clear hom
    replace hx0 := ohx0.up hX
    replace hy0 := ohy0.up hX
    replace how := ohow.up hX
    replace hbox0 := ohbox0.up hX
    replace yhbox0 := hbox0.two
    replace zhbox0 := fun o => (hbox0.alloc o).two
    replace lhbox0 := hbox0.lt
    go_wp2_with fail
    refine (heldIntS_any _ _ _ 1 _ hog.ri (by omega) hlen).mono ?_
    rintro e w12 ⟨rfl, hb12⟩
    have hU12 : Up w11 w12 := Up.then_ (by go_grown) hb12
    replace hX := Up.then_ hX hU12
    have hw12 : Below w.heap.size w w12 := Up.then_ hw11 hU12
    have hs12 := hU12.size
    replace hx0 := hx0.up hU12
    replace hy0 := hy0.up hU12
    replace how := how.up hU12
    replace hog := hog.up hU12
    replace hbox0 := hbox0.up hU12
    replace yhbox0 := hbox0.two
    replace zhbox0 := fun o => (hbox0.alloc o).two
    replace lhbox0 := hbox0.lt
    go_wp2_with fail
    refine (toTree_any _ _ _ _ _ _ _ _ _ (hx0.up (by go_grown)) (hy0.up (by go_grown)) (by omega) (by omega)).mono ?_
    rintro e w13 ⟨gah0, gbh0, rfl, hgh0, hggh0, kah0, kbh0, hb13⟩
    have hU13 : Up w12 w13 := Up.then_ (by go_grown) hb13
    replace hX := Up.then_ hX hU13
    have hw13 : Below w.heap.size w w13 := Up.then_ hw12 hU13
    have hs13 := hU13.size
    replace hx0 := hx0.up hU13
    replace hy0 := hy0.up hU13
    replace how := how.up hU13
    replace hog := hog.up hU13
    replace hbox0 := hbox0.up hU13
    replace yhbox0 := hbox0.two
    replace zhbox0 := fun o => (hbox0.alloc o).two
    replace lhbox0 := hbox0.lt
    go_wp2_with fail
    refine (implTreeSeparators_law (kah0.ri HX0.out) (kbh0.ri HY0.out) (by omega) (by omega) fx0 fy0).mono ?_
    rintro e w14 ⟨Ah, ch, rfl, hoh, hb14⟩
    have hU14 : Up w13 w14 := Up.then_ (by go_grown) hb14
    replace hX := Up.then_ hX hU14
    have hw14 : Below w.heap.size w w14 := Up.then_ hw13 hU14
    have hs14 := hU14.size
    replace hx0 := hx0.up hU14
    replace hy0 := hy0.up hU14
    replace how := how.up hU14
    replace hog := hog.up hU14
    replace hbox0 := hbox0.up hU14
    replace kah0 := kah0.up hU14
    replace kbh0 := kbh0.up hU14
    replace yhbox0 := hbox0.two
    replace zhbox0 := fun o => (hbox0.alloc o).two
    replace lhbox0 := hbox0.lt
    go_wp2_with fail
    refine (eqIntS_any _ _ _ _ _ _ _ _ _ hoh.ri how.ri (by omega)).mono ?_
    rintro e w15 ⟨rfl, hb15⟩
    have hU15 : Up w14 w15 := Up.then_ (by go_grown) hb15
    replace hX := Up.then_ hX hU15
    have hw15 : Below w.heap.size w w15 := Up.then_ hw14 hU15
    have hs15 := hU15.size
    replace hx0 := hx0.up hU15
    replace hy0 := hy0.up hU15
    replace how := how.up hU15
    replace hog := hog.up hU15
    replace hoh := hoh.up hU15
    replace hbox0 := hbox0.up hU15
    replace yhbox0 := hbox0.two
    replace zhbox0 := fun o => (hbox0.alloc o).two
    replace lhbox0 := hbox0.lt
    go_wp2_with fail
    refine (heldIntS_any _ _ _ 1 _ hog.ri (by omega) hlen).mono ?_
    rintro e w16 ⟨rfl, hb16⟩
    have hU16 : Up w15 w16 := Up.then_ (by go_grown) hb16
    replace hX := Up.then_ hX hU16
    have hw16 : Below w.heap.size w w16 := Up.then_ hw15 hU16
    have hs16 := hU16.size
    replace hx0 := hx0.up hU16
    replace hy0 := hy0.up hU16
    replace how := how.up hU16
    replace hog := hog.up hU16
    replace hoh := hoh.up hU16
    replace hbox0 := hbox0.up hU16
    replace yhbox0 := hbox0.two
    replace zhbox0 := fun o => (hbox0.alloc o).two
    replace lhbox0 := hbox0.lt
    go_wp2
    go_ret
    exact ⟨rfl, hw16⟩
  · go_enter Try.func8, Try.ntmps8
    have hbox0 := Blk.new w 49 #[.slice A0 n0 c0, .slice B0 m0 d0]
    go_wp2_with fail
    refine (szTree_big _ _ _ _ _ _ _ _ (by omega) (by omega) (by omega) hn0 hm0).mono ?_
    rintro e w1 ⟨rfl, hb1⟩
    have hU1 : Up w w1 := Up.then_ (by go_grown) hb1
    have hw1 : Below w.heap.size w w1 := hU1
    have hs1 := hU1.size
    replace hx0 := hx0.up hU1
    replace hy0 := hy0.up hU1
    replace hbox0 := hbox0.up hb1
    have yhbox0 := hbox0.two
    have zhbox0 := fun o => (hbox0.alloc o).two
    have lhbox0 := hbox0.lt
    go_wp2
    go_ret
    exact ⟨rfl, hw1⟩


open Go.ChangeShapes Go.WideShapes Go.ChangeAt Go.Joins Go.Deep in
set_option maxRecDepth 100000 in
theorem lawTreeSeparators_lifted (os : Os) (started : os.Started) (H : Type) (enc : TypeId × Value → H) :
    ReturnsInHanded {} Try.checked os 8 .any (Rows.fnExactTreeSeparatorsSpec.pre6 enc Try.prog Try.f8 Rows.fnExactTreeSeparatorsRow.domain false) (Rows.fnExactTreeSeparatorsSpec.post enc Try.prog Try.f8 false true false false) := by
  refine returnsInHanded_of_change (C := Try.checked) Try.own_law started (by kernel_rfl) Try.func8
    (ChangeSpec.witness6 (enc := enc) (C := Try.checked) false ⟨#[], #[.agg #[.slice none 0 0, .slice none 0 0]], []⟩ 8 (by kernel_rfl) (by kernel_rfl) (by kernel_rfl) (by kernel_rfl)) ?_
  intro W base args ds gs before hval0 hW _ _
  have hval : ∀ (j : Nat) t v, Try.f8.params[j]? = some t → args[j]? = some v → Value.okWide Try.prog W .any base t v := hval0
  have hW' := hW
  obtain ⟨p, q, hA0, hV, rfl, _, _⟩ := hW
  have hA : DataW.TrodAll enc Try.prog W 0 (fun _ => true) true Try.f8.params.toList args.toList ds p := hA0
  rw [Try.params8] at hA hval
  obtain ⟨v0, vs0, d0, ds0, p0, q0, hargs, rfl, rfl, h0, r0⟩ := trodAll_cons hA
  obtain ⟨rfl, rfl, rfl⟩ := trodAll_nil r0
  obtain rfl : args = #[v0] := by cases args; simp_all
  obtain ⟨rfl, rfl⟩ := trodVars_none hV
  have t0 := h0
  have lt0 : ∀ x ∈ p0, x.block < W.heap.size := by obtain ⟨m, hm⟩ := t0; exact DataW.trod_lt m _ _ _ hm
  obtain ⟨A0, n0, c0, X0, B0, m0, d0, Y0, rfl, hx0, hy0, hn0, hm0, fx0, fy0⟩ := open_II Try.underlying49 (by kernel_rfl) (by kernel_rfl) rfl rfl Try.underlying22 Try.underlying3 (by kernel_rfl) (hval 0 49 v0 rfl rfl) h0
  refine (lawTreeSeparators_any A0 n0 c0 X0 B0 m0 d0 Y0 W hx0 hy0 hn0 hm0 fx0 fy0).mono fun e W' ⟨he, bel⟩ => ?_
  subst he
  exact ⟨_, rfl, _, _, _, [], _, [], hW', trodAll_mk1 (shut_bool Try.underlying4 _), (trodAll_cons_mk (Below.trod Try.laidOut_law (by kernel_rfl) (of_decide_eq_true (by kernel_rfl)) t0 bel lt0) trodAll_mk0), rfl, bel.frame _, fun h => by cases h⟩

theorem lawTreeSeparators_holds : Rows.FnExactTreeSeparatorsSaid :=
  OpenClaim.holds_of_wide 8 Try.f8 rfl rfl rfl rfl rfl rfl rfl ⟨rfl, rfl, rfl, rfl, rfl⟩ rfl rfl rfl rfl rfl (by kernel_rfl) Try.func8 (by kernel_rfl)
    (of_decide_eq_true (by kernel_rfl)) (by unfold Func.isWrapper; first | (rw [if_pos (by decide +kernel)]; kernel_rfl) | (rw [if_neg (by decide +kernel)]; exact ⟨rfl, rfl⟩))
    (fun os started H enc _ => lawTreeSeparators_lifted os started H enc)
#print axioms lawTreeSeparators_holds
end Go.Proofs.Ytnaoomchekhcgaa
