/- The law FnExactUnitModelOf: for all arguments the program's UnitModelOf returns what the reference's returns, and leaves its arguments alone. -/
import Derived.Test.YtfodbgogeclifaaRow
import Derived.Test.YtfodbgogeclifaaLaw4
import Derived.Test.YtfodbgogeclifaaConUnitModelOf
import Derived.Deep.RegionHeld3
namespace Go.Proofs.Ytfodbgogeclifaa
open Go.RowKit

set_option maxRecDepth 100000 in
set_option maxHeartbeats 8000000 in
theorem lawUnitModelOf_any (N0 : Int) (A0 : Option Addr) (n0 c0 : Nat) (X0 : List Int) (w : World) (hx0 : RI w A0 n0 X0) (hn0 : n0 ≤ 9223372036854775807) (fx0 : Fits X0) :
    Calls Try.prog 13 #[.agg #[.int .i64 N0, .slice A0 n0 c0]] w fun e w' => e = .returned (.bool true) ∧ Below w.heap.size w w' := by
  have HX0 := Lib.hid hx0.1
  by_cases hs : n0 ≤ 1048576
  · have _hs0 := hs
    go_enter Try.func13, Try.ntmps13
    have hbox0 := Blk.new w 42 #[.int .i64 N0, .slice A0 n0 c0]
    go_wp2_with fail
    refine (szGraph_ok _ _ _ _ _ _ (by omega) (by omega)).mono ?_
    rintro e w1 ⟨rfl, hb1⟩
    have hU1 : Up w w1 := Up.then_ (by go_grown) hb1
    have hw1 : Below w.heap.size w w1 := hU1
    have hs1 := hU1.size
    replace hx0 := hx0.up hU1
    replace hbox0 := hbox0.up hb1
    have yhbox0 := hbox0.two
    have zhbox0 := fun o => (hbox0.alloc o).two
    have lhbox0 := hbox0.lt
    go_wp2_with fail
    refine (toGraph_any _ _ _ _ _ _ (hx0.up (by go_grown)) (by omega)).mono ?_
    rintro e w2 ⟨gas0, rfl, hgs0, kas0, hb2⟩
    have hU2 : Up w1 w2 := Up.then_ (by go_grown) hb2
    have hw2 : Below w.heap.size w w2 := Up.then_ hw1 hU2
    have hs2 := hU2.size
    replace hx0 := hx0.up hU2
    replace hbox0 := hbox0.up hU2
    replace yhbox0 := hbox0.two
    replace zhbox0 := fun o => (hbox0.alloc o).two
    replace lhbox0 := hbox0.lt
    go_wp2_with fail
    refine (specUnitModelOf_law (kas0.ri HX0.out) (by omega) fx0).mono ?_
    rintro e w3 ⟨Aw, cw, Bw, dw, rfl, how, hpw, hnew, hb3⟩
    have hU3 : Up w2 w3 := Up.then_ (by go_grown) hb3
    have hw3 : Below w.heap.size w w3 := Up.then_ hw2 hU3
    have hs3 := hU3.size
    replace hx0 := hx0.up hU3
    replace hbox0 := hbox0.up hU3
    replace kas0 := kas0.up hU3
    replace yhbox0 := hbox0.two
    replace zhbox0 := fun o => (hbox0.alloc o).two
    replace lhbox0 := hbox0.lt
    have hlen := resUnitModelOf_len N0 X0
    have hlen2 := resBUnitModelOf_len N0 X0
    have ohx0 := hx0
    have ohow := how
    have ohpw := hpw
    have ohbox0 := hbox0
    have hX : Up w3 w3 := Up.refl _
    have hresw := Blk.new w3 24 #[.slice Aw (resUnitModelOf N0 X0).length cw, .slice Bw (resBUnitModelOf N0 X0).length dw]
    go_wp2_with fail
    refine (toGraph_any _ _ _ _ _ _ (hx0.up (by go_grown)) (by omega)).mono ?_
    rintro e w4 ⟨gax0, rfl, hgx0, kax0, hb4⟩
    have hU4 : Up w3 w4 := Up.then_ (by go_grown) hb4
    replace hX := Up.then_ hX hU4
    have hw4 : Below w.heap.size w w4 := Up.then_ hw3 hU4
    have hs4 := hU4.size
    replace hx0 := hx0.up hU4
    replace how := how.up hU4
    replace hpw := hpw.up hU4
    replace hbox0 := hbox0.up hU4
    replace hresw := hresw.up hb4
    replace yhbox0 := hbox0.two
    replace zhbox0 := fun o => (hbox0.alloc o).two
    replace lhbox0 := hbox0.lt
    have yhresw := hresw.two
    have zhresw := fun o => (hresw.alloc o).two
    have lhresw := hresw.lt
    have l0kax0 := kax0.lt
    try simp only [World.size_alloc] at hgx0
    have hvar0 := Blk.new w4 45 #[.int .i64 N0, .slice (some ⟨gax0, 0, none⟩) n0 n0]
    go_wp2_with fail
    refine (implUnitModelOf_law ((kax0.alloc _).ri HX0.out) (by omega) fx0).mono ?_
    rintro e w5 ⟨Ag, cg, Bg, dg, rfl, hog, hpg, hneg, hb5⟩
    have hU5 : Up w4 w5 := Up.then_ (by go_grown) hb5
    replace hX := Up.then_ hX hU5
    have hw5 : Below w.heap.size w w5 := Up.then_ hw4 hU5
    have hs5 := hU5.size
    replace hx0 := hx0.up hU5
    replace how := how.up hU5
    replace hpw := hpw.up hU5
    replace hbox0 := hbox0.up hU5
    replace hresw := hresw.up hU5
    replace kax0 := kax0.up hU5
    replace hvar0 := hvar0.up hb5
    replace yhbox0 := hbox0.two
    replace zhbox0 := fun o => (hbox0.alloc o).two
    replace lhbox0 := hbox0.lt
    replace yhresw := hresw.two
    replace zhresw := fun o => (hresw.alloc o).two
    replace lhresw := hresw.lt
    have yhvar0 := hvar0.two
    have zhvar0 := fun o => (hvar0.alloc o).two
    have lhvar0 := hvar0.lt
    replace hog := hog.more (base' := w4.heap.size) (by simp)
    have bhog := hog.block
    replace hpg := hpg.more (base' := w4.heap.size) (by simp)
    have bhpg := hpg.block
    have hresg := Blk.new w5 24 #[.slice Ag (resUnitModelOf N0 X0).length cg, .slice Bg (resBUnitModelOf N0 X0).length dg]
    go_wp2_with fail
    refine (eqIntervals_any _ _ _ _ _ _ _ _ _ _ _ _ _ _ _ _ _ (hog.ri.up (by go_grown)) (hpg.ri.up (by go_grown)) (how.ri.up (by go_grown)) (hpw.ri.up (by go_grown)) (by omega) (by omega)).mono ?_
    rintro e w6 ⟨rfl, hb6⟩
    have hU6 : Up w5 w6 := Up.then_ (by go_grown) hb6
    replace hX := Up.then_ hX hU6
    have hw6 : Below w.heap.size w w6 := Up.then_ hw5 hU6
    have hs6 := hU6.size
    replace hx0 := hx0.up hU6
    replace how := how.up hU6
    replace hpw := hpw.up hU6
    replace hog := hog.up hU6
    replace hpg := hpg.up hU6
    replace hbox0 := hbox0.up hU6
    replace hresw := hresw.up hU6
    replace kax0 := kax0.up hU6
    replace hvar0 := hvar0.up hU6
    replace hresg := hresg.up hb6
    replace yhbox0 := hbox0.two
    replace zhbox0 := fun o => (hbox0.alloc o).two
    replace lhbox0 := hbox0.lt
    replace yhresw := hresw.two
    replace zhresw := fun o => (hresw.alloc o).two
    replace lhresw := hresw.lt
    replace yhvar0 := hvar0.two
    replace zhvar0 := fun o => (hvar0.alloc o).two
    replace lhvar0 := hvar0.lt
    have yhresg := hresg.two
    have zhresg := fun o => (hresg.alloc o).two
    have lhresg := hresg.lt
    go_wp2
    have hV0 : Up w6 w6.drew := (Up.refl _).drew
    go_region_held3 (fun w' => Up w6 w' ∧ ∀ b o, b < w6.heap.size → w'.cell? ⟨b, o, none⟩ = w6.cell? ⟨b, o, none⟩) (first | exact upk hV2 | exact upk hV1 | exact upk hV0)
      (first | (go_at_call 32; refine (toGraph_any _ _ _ _ _ _ (hx0.up hV0) (by omega)).mono ?_; rintro e w7 ⟨gaz0, rfl, hgz0, kaz0, hb7⟩; have hV1 := Up.then_ hV0 hb7) | (go_at_call 34; refine (eqGraph_any _ _ _ _ _ _ _ _ _ _ _  ((kax0.up hV1).ri HX0.out) (kaz0.ri HX0.out) hn0).mono ?_; rintro e w8 ⟨rfl, hb8⟩; have hV2 := Up.then_ hV1 hb8))
    have hU8 := hV2
    clear hV0 hV1 hV2
    replace hX := Up.then_ hX hU8
    have hw8 : Below w.heap.size w w8 := Up.then_ hw6 hU8
    have hs8 := hU8.size
    replace hx0 := hx0.up hU8
    replace how := how.up hU8
    replace hpw := hpw.up hU8
    replace hog := hog.up hU8
    replace hpg := hpg.up hU8
    replace hbox0 := hbox0.up hU8
    replace hresw := hresw.up hU8
    replace kax0 := kax0.up hU8
    replace hvar0 := hvar0.up hU8
    replace hresg := hresg.up hU8
    replace yhbox0 := hbox0.two
    replace zhbox0 := fun o => (hbox0.alloc o).two
    replace lhbox0 := hbox0.lt
    replace yhresw := hresw.two
    replace zhresw := fun o => (hresw.alloc o).two
    replace lhresw := hresw.lt
    replace yhvar0 := hvar0.two
    replace zhvar0 := fun o => (hvar0.alloc o).two
    replace lhvar0 := hvar0.lt
    replace yhresg := hresg.two
    replace zhresg := fun o => (hresg.alloc o).two
    replace lhresg := hresg.lt
    go_wp2_with fail
    refine (markGraph_any _ _ _ _ (1) gax0 _ _ (OwnI.of_blk kax0 HX0.out (by omega)) (by omega) (by omega)).mono ?_
    rintro e w9 ⟨rfl, hg9⟩
    replace hg9 : w8.grownBy w9 (some gax0) := hg9
    replace hX := hX.grown hg9 hX.size (fun k hk => by simp at hk; omega)
    have hw9 : Below w.heap.size w w9 := hw8.grown hg9 hw8.size (fun k hk => by have := hw3.size; simp at hk; omega)
    have hs9 := hg9.size
    replace hog := hog.kept hg9 (.inr (fun e => by have := bhog gax0 e; omega))
    replace hpg := hpg.kept hg9 (.inr (fun e => by have := bhpg gax0 e; omega))
    replace hresw := hresw.grown hg9 (fun e => by simp at e; omega)
    replace hresg := hresg.grown hg9 (fun e => by simp at e; omega)
    replace hx0 := ohx0.up hX
    replace how := ohow.up hX
    replace hpw := ohpw.up hX
    replace hbox0 := ohbox0.up hX
    replace yhbox0 := hbox0.two
    replace zhbox0 := fun o => (hbox0.alloc o).two
    replace lhbox0 := hbox0.lt
    replace yhresw := hresw.two
    replace zhresw := fun o => (hresw.alloc o).two
    replace lhresw := hresw.lt
    replace yhresg := hresg.two
    replace zhresg := fun o => (hresg.alloc o).two
    replace lhresg := hresg.lt
    go_wp2_with fail
    refine (eqIntervals_any _ _ _ _ _ _ _ _ _ _ _ _ _ _ _ _ _ hog.ri hpg.ri how.ri hpw.ri (by omega) (by omega)).mono ?_
    rintro e w10 ⟨rfl, hb10⟩
    have hU10 : Up w9 w10 := Up.then_ (by go_grown) hb10
    replace hX := Up.then_ hX hU10
    have hw10 : Below w.heap.size w w10 := Up.then_ hw9 hU10
    have hs10 := hU10.size
    replace hx0 := hx0.up hU10
    replace how := how.up hU10
    replace hpw := hpw.up hU10
    replace hog := hog.up hU10
    replace hpg := hpg.up hU10
    replace hbox0 := hbox0.up hU10
    replace hresw := hresw.up hU10
    replace hresg := hresg.up hU10
    replace yhbox0 := hbox0.two
    replace zhbox0 := fun o => (hbox0.alloc o).two
    replace lhbox0 := hbox0.lt
    replace yhresw := hresw.two
    replace zhresw := fun o => (hresw.alloc o).two
    replace lhresw := hresw.lt
    replace yhresg := hresg.two
    replace zhresg := fun o => (hresg.alloc o).two
    replace lhresg := hresg.lt
    go_wp2_with fail
    refine (markIntervals_any _ _ _ _ _ _ 1 _ _ _ _ _ hog hpg hneg (by omega) hlen hlen2).mono ?_
    rintro e w11 ⟨rfl, hom, hpm, wm11, hga11, hgb11⟩
    replace hX := hX.grown hga11 hX.size (fun k hk => by have := (bhog k hk).1; omega)
    have hwm11 : Below w.heap.size w wm11 := hw10.grown hga11 hw10.size (fun k hk => by have := hw3.size; have := (bhog k hk).1; omega)
    have hsm11 := hga11.size
    replace hresw := hresw.grown hga11 (fun e => by have := bhog _ e.symm; omega)
    replace hresg := hresg.grown hga11 (fun e => by have := bhog _ e.symm; omega)
    replace hX := hX.grown hgb11 hX.size (fun k hk => by have := (bhpg k hk).1; omega)
    have hw11 : Below w.heap.size w w11 := hwm11.grown hgb11 hwm11.size (fun k hk => by have := hw3.size; have := (bhpg k hk).1; omega)
    have hs11 := hgb11.size
    replace hresw := hresw.grown hgb11 (fun e => by have := bhpg _ e.symm; omega)
    replace hresg := hresg.grown hgb11 (fun e => by have := bhpg _ e.symm; omega)
    replace hog := hom
    clear hom
    replace hpg := hpm
    clear hpm
    replace hx0 := ohx0.up hX
    replace how := ohow.up hX
    replace hpw := ohpw.up hX
    replace hbox0 := ohbox0.up hX
    replace yhbox0 := hbox0.two
    replace zhbox0 := fun o => (hbox0.alloc o).two
    replace lhbox0 := hbox0.lt
    replace yhresw := hresw.two
    replace zhresw := fun o => (hresw.alloc o).two
    replace lhresw := hresw.lt
    replace yhresg := hresg.two
    replace zhresg := fun o => (hresg.alloc o).two
    replace lhresg := hresg.lt
    go_wp2_with fail
    refine (heldIntervals_any _ _ _ _ _ _ 1 _ (hog.ri.up (by go_grown)) (hpg.ri.up (by go_grown)) (by omega) hlen hlen2).mono ?_
    rintro e w12 ⟨rfl, hb12⟩
    have hU12 : Up w11 w12 := Up.then_ (by go_grown) hb12
    replace hX := Up.then_ hX hU12
    have hw12 : Below w.heap.size w w12 := Up.then_ hw11 hU12
    have hs12 := hU12.size
    replace hx0 := hx0.up hU12
    replace how := how.up hU12
    replace hpw := hpw.up hU12
    replace hog := hog.up hU12
    replace hpg := hpg.up hU12
    replace hbox0 := hbox0.up hU12
    replace hresw := hresw.up hU12
    replace hresg := hresg.up hU12
    replace yhbox0 := hbox0.two
    replace zhbox0 := fun o => (hbox0.alloc o).two
    replace lhbox0 := hbox0.lt
    replace yhresw := hresw.two
    replace zhresw := fun o => (hresw.alloc o).two
    replace lhresw := hresw.lt
    replace yhresg := hresg.two
    replace zhresg := fun o => (hresg.alloc o).two
    replace lhresg := hresg.lt
    go_wp2_with fail
    refine (toGraph_any _ _ _ _ _ _ (hx0.up (by go_grown)) (by omega)).mono ?_
    rintro e w13 ⟨gah0, rfl, hgh0, kah0, hb13⟩
    have hU13 : Up w12 w13 := Up.then_ (by go_grown) hb13
    replace hX := Up.then_ hX hU13
    have hw13 : Below w.heap.size w w13 := Up.then_ hw12 hU13
    have hs13 := hU13.size
    replace hx0 := hx0.up hU13
    replace how := how.up hU13
    replace hpw := hpw.up hU13
    replace hog := hog.up hU13
    replace hpg := hpg.up hU13
    replace hbox0 := hbox0.up hU13
    replace hresw := hresw.up hU13
    replace hresg := hresg.up hU13
    replace yhbox0 := hbox0.two
    replace zhbox0 := fun o => (hbox0.alloc o).two
    replace lhbox0 := hbox0.lt
    replace yhresw := hresw.two
    replace zhresw := fun o => (hresw.alloc o).two
    replace lhresw := hresw.lt
    replace yhresg := hresg.two
    replace zhresg := fun o => (hresg.alloc o).two
    replace lhresg := hresg.lt
    go_wp2_with fail
    refine (implUnitModelOf_law (kah0.ri HX0.out) (by omega) fx0).mono ?_
    rintro e w14 ⟨Ah, ch, Bh, dh, rfl, hoh, hph, hneh, hb14⟩
    have hU14 : Up w13 w14 := Up.then_ (by go_grown) hb14
    replace hX := Up.then_ hX hU14
    have hw14 : Below w.heap.size w w14 := Up.then_ hw13 hU14
    have hs14 := hU14.size
    replace hx0 := hx0.up hU14
    replace how := how.up hU14
    replace hpw := hpw.up hU14
    replace hog := hog.up hU14
    replace hpg := hpg.up hU14
    replace hbox0 := hbox0.up hU14
    replace hresw := hresw.up hU14
    replace hresg := hresg.up hU14
    replace kah0 := kah0.up hU14
    replace yhbox0 := hbox0.two
    replace zhbox0 := fun o => (hbox0.alloc o).two
    replace lhbox0 := hbox0.lt
    replace yhresw := hresw.two
    replace zhresw := fun o => (hresw.alloc o).two
    replace lhresw := hresw.lt
    replace yhresg := hresg.two
    replace zhresg := fun o => (hresg.alloc o).two
    replace lhresg := hresg.lt
    have hresh := Blk.new w14 24 #[.slice Ah (resUnitModelOf N0 X0).length ch, .slice Bh (resBUnitModelOf N0 X0).length dh]
    go_wp2_with fail
    refine (eqIntervals_any _ _ _ _ _ _ _ _ _ _ _ _ _ _ _ _ _ (hoh.ri.up (by go_grown)) (hph.ri.up (by go_grown)) (how.ri.up (by go_grown)) (hpw.ri.up (by go_grown)) (by omega) (by omega)).mono ?_
    rintro e w15 ⟨rfl, hb15⟩
    have hU15 : Up w14 w15 := Up.then_ (by go_grown) hb15
    replace hX := Up.then_ hX hU15
    have hw15 : Below w.heap.size w w15 := Up.then_ hw14 hU15
    have hs15 := hU15.size
    replace hx0 := hx0.up hU15
    replace how := how.up hU15
    replace hpw := hpw.up hU15
    replace hog := hog.up hU15
    replace hpg := hpg.up hU15
    replace hoh := hoh.up hU15
    replace hph := hph.up hU15
    replace hbox0 := hbox0.up hU15
    replace hresw := hresw.up hU15
    replace hresg := hresg.up hU15
    replace hresh := hresh.up hb15
    replace yhbox0 := hbox0.two
    replace zhbox0 := fun o => (hbox0.alloc o).two
    replace lhbox0 := hbox0.lt
    replace yhresw := hresw.two
    replace zhresw := fun o => (hresw.alloc o).two
    replace lhresw := hresw.lt
    replace yhresg := hresg.two
    replace zhresg := fun o => (hresg.alloc o).two
    replace lhresg := hresg.lt
    have yhresh := hresh.two
    have zhresh := fun o => (hresh.alloc o).two
    have lhresh := hresh.lt
    go_wp2_with fail
    refine (heldIntervals_any _ _ _ _ _ _ 1 _ (hog.ri.up (by go_grown)) (hpg.ri.up (by go_grown)) (by omega) hlen hlen2).mono ?_
    rintro e w16 ⟨rfl, hb16⟩
    have hU16 : Up w15 w16 := Up.then_ (by go_grown) hb16
    replace hX := Up.then_ hX hU16
    have hw16 : Below w.heap.size w w16 := Up.then_ hw15 hU16
    have hs16 := hU16.size
    replace hx0 := hx0.up hU16
    replace how := how.up hU16
    replace hpw := hpw.up hU16
    replace hog := hog.up hU16
    replace hpg := hpg.up hU16
    replace hoh := hoh.up hU16
    replace hph := hph.up hU16
    replace hbox0 := hbox0.up hU16
    replace hresw := hresw.up hU16
    replace hresg := hresg.up hU16
    replace hresh := hresh.up hU16
    replace yhbox0 := hbox0.two
    replace zhbox0 := fun o => (hbox0.alloc o).two
    replace lhbox0 := hbox0.lt
    replace yhresw := hresw.two
    replace zhresw := fun o => (hresw.alloc o).two
    replace lhresw := hresw.lt
    replace yhresg := hresg.two
    replace zhresg := fun o => (hresg.alloc o).two
    replace lhresg := hresg.lt
    replace yhresh := hresh.two
    replace zhresh := fun o => (hresh.alloc o).two
    replace lhresh := hresh.lt
    go_wp2
    go_ret
    exact ⟨rfl, hw16⟩
  · go_enter Try.func13, Try.ntmps13
    have hbox0 := Blk.new w 42 #[.int .i64 N0, .slice A0 n0 c0]
    go_wp2_with fail
    refine (szGraph_big _ _ _ _ _ _ (by omega) (by omega) (by omega) hn0).mono ?_
    rintro e w1 ⟨rfl, hb1⟩
    have hU1 : Up w w1 := Up.then_ (by go_grown) hb1
    have hw1 : Below w.heap.size w w1 := hU1
    have hs1 := hU1.size
    replace hx0 := hx0.up hU1
    replace hbox0 := hbox0.up hb1
    have yhbox0 := hbox0.two
    have zhbox0 := fun o => (hbox0.alloc o).two
    have lhbox0 := hbox0.lt
    go_wp2
    go_ret
    exact ⟨rfl, hw1⟩


open Go.ChangeShapes Go.WideShapes Go.ChangeAt Go.Joins Go.Deep in
set_option maxRecDepth 100000 in
theorem lawUnitModelOf_lifted (os : Os) (started : os.Started) (H : Type) (enc : TypeId × Value → H) :
    ReturnsInHanded {} Try.checked os 13 .any (Rows.fnExactUnitModelOfSpec.pre6 enc Try.prog Try.f13 Rows.fnExactUnitModelOfRow.domain false) (Rows.fnExactUnitModelOfSpec.post enc Try.prog Try.f13 false true false false) := by
  refine returnsInHanded_of_change (C := Try.checked) Try.own_law started (by kernel_rfl) Try.func13
    (ChangeSpec.witness6 (enc := enc) (C := Try.checked) false ⟨#[], #[.agg #[.int .i64 0, .slice none 0 0]], []⟩ 8 (by kernel_rfl) (by kernel_rfl) (by kernel_rfl) (by kernel_rfl)) ?_
  intro W base args ds gs before hval0 hW _ _
  have hval : ∀ (j : Nat) t v, Try.f13.params[j]? = some t → args[j]? = some v → Value.okWide Try.prog W .any base t v := hval0
  have hW' := hW
  obtain ⟨p, q, hA0, hV, rfl, _, _⟩ := hW
  have hA : DataW.TrodAll enc Try.prog W 0 (fun _ => true) true Try.f13.params.toList args.toList ds p := hA0
  rw [Try.params13] at hA hval
  obtain ⟨v0, vs0, d0, ds0, p0, q0, hargs, rfl, rfl, h0, r0⟩ := trodAll_cons hA
  obtain ⟨rfl, rfl, rfl⟩ := trodAll_nil r0
  obtain rfl : args = #[v0] := by cases args; simp_all
  obtain ⟨rfl, rfl⟩ := trodVars_none hV
  have t0 := h0
  have lt0 : ∀ x ∈ p0, x.block < W.heap.size := by obtain ⟨m, hm⟩ := t0; exact DataW.trod_lt m _ _ _ hm
  obtain ⟨N0, A0, n0, c0, X0, rfl, hx0, hn0, fx0⟩ := open_nI Try.underlying42 (by kernel_rfl) (by kernel_rfl) rfl rfl Try.underlying22 Try.underlying3 (by kernel_rfl) (hval 0 42 v0 rfl rfl) h0
  refine (lawUnitModelOf_any N0 A0 n0 c0 X0 W hx0 hn0 fx0).mono fun e W' ⟨he, bel⟩ => ?_
  subst he
  exact ⟨_, rfl, _, _, _, [], _, [], hW', trodAll_mk1 (shut_bool Try.underlying4 _), (trodAll_cons_mk (Below.trod Try.laidOut_law (by kernel_rfl) (of_decide_eq_true (by kernel_rfl)) t0 bel lt0) trodAll_mk0), rfl, bel.frame _, fun h => by cases h⟩

theorem lawUnitModelOf_holds : Rows.FnExactUnitModelOfSaid :=
  OpenClaim.holds_of_wide 13 Try.f13 rfl rfl rfl rfl rfl rfl rfl ⟨rfl, rfl, rfl, rfl, rfl⟩ rfl rfl rfl rfl rfl (by kernel_rfl) Try.func13 (by kernel_rfl)
    (of_decide_eq_true (by kernel_rfl)) (by unfold Func.isWrapper; first | (rw [if_pos (by decide +kernel)]; kernel_rfl) | (rw [if_neg (by decide +kernel)]; exact ⟨rfl, rfl⟩))
    (fun os started H enc _ => lawUnitModelOf_lifted os started H enc)
#print axioms lawUnitModelOf_holds
end Go.Proofs.Ytfodbgogeclifaa
