/- The law FnExactColorByOrder: for all arguments the program's ColorByOrder returns what the reference's returns, and leaves its arguments alone. -/
import Derived.Test.YtfodbgogeclifaaRow
import Derived.Test.YtfodbgogeclifaaLaw4
import Derived.Test.YtfodbgogeclifaaConColorByOrder
import Derived.Deep.RegionHeld3
namespace Go.Proofs.Ytfodbgogeclifaa
open Go.RowKit

set_option maxRecDepth 100000 in
set_option maxHeartbeats 8000000 in
theorem lawColorByOrder_any (N0 : Int) (A0 : Option Addr) (n0 c0 : Nat) (X0 : List Int) (A1 : Option Addr) (n1 c1 : Nat) (X1 : List Int) (w : World) (hx0 : RI w A0 n0 X0) (hn0 : n0 ≤ 9223372036854775807) (fx0 : Fits X0) (hx1 : RI w A1 n1 X1) (hn1 : n1 ≤ 9223372036854775807) (fx1 : Fits X1) :
    Calls Try.prog 8 #[.agg #[.int .i64 N0, .slice A0 n0 c0], .slice A1 n1 c1] w fun e w' => e = .returned (.bool true) ∧ Below w.heap.size w w' := by
  have HX0 := Lib.hid hx0.1
  have HX1 := Lib.hid hx1.1
  by_cases hc1 : n1 ≤ 1048576
  rotate_left
  · go_enter Try.func8, Try.ntmps8
    replace hc1 := Nat.lt_of_not_le hc1
    have hbox0 := Blk.new w 42 #[.int .i64 N0, .slice A0 n0 c0]
    go_wp2
    go_ret
    exact ⟨rfl, by go_grown⟩
  by_cases hs : n0 ≤ 1048576
  · have _hs0 := hs
    go_enter Try.func8, Try.ntmps8
    have hbox0 := Blk.new w 42 #[.int .i64 N0, .slice A0 n0 c0]
    go_wp2_with fail
    refine (szGraph_ok _ _ _ _ _ _ (by omega) (by omega)).mono ?_
    rintro e w1 ⟨rfl, hb1⟩
    have hU1 : Up w w1 := Up.then_ (by go_grown) hb1
    have hw1 : Below w.heap.size w w1 := hU1
    have hs1 := hU1.size
    replace hx0 := hx0.up hU1
    replace hx1 := hx1.up hU1
    replace hbox0 := hbox0.up hb1
    have yhbox0 := hbox0.two
    have zhbox0 := fun o => (hbox0.alloc o).two
    have lhbox0 := hbox0.lt
    go_wp2_with fail
    refine (toGraph_any _ _ _ _ _ _ (hx0.up (by go_grown)) (by omega)).mono ?_
    rintro e w2 ⟨gas0, rfl, hgs0, kas0, hb2⟩
    have hU2 : Up w1 w2 := Up.then_ (by go_grown) hb2
    have hw2 : Below w.heap.size w w2 := Up.then_ hw1 hU2
    have hs2 := hU2.size
    replace hx0 := hx0.up hU2
    replace hx1 := hx1.up hU2
    replace hbox0 := hbox0.up hU2
    replace yhbox0 := hbox0.two
    replace zhbox0 := fun o => (hbox0.alloc o).two
    replace lhbox0 := hbox0.lt
    go_wp2_with fail
    refine (toIntS_any _ _ _ _ _ (hx1.up (by go_grown)) (by omega)).mono ?_
    rintro e w3 ⟨gas1, rfl, hgs1, kas1, hb3⟩
    have hU3 : Up w2 w3 := Up.then_ (by go_grown) hb3
    have hw3 : Below w.heap.size w w3 := Up.then_ hw2 hU3
    have hs3 := hU3.size
    replace hx0 := hx0.up hU3
    replace hx1 := hx1.up hU3
    replace hbox0 := hbox0.up hU3
    replace kas0 := kas0.up hU3
    replace yhbox0 := hbox0.two
    replace zhbox0 := fun o => (hbox0.alloc o).two
    replace lhbox0 := hbox0.lt
    go_wp2_with fail
    refine (specColorByOrder_law (kas0.ri HX0.out) (by omega) fx0 (kas1.ri HX1.out) (by omega) (Nat.le_refl _) (by omega) fx1).mono ?_
    rintro e w4 ⟨Aw, cw, rfl, how, hb4⟩
    have hU4 : Up w3 w4 := Up.then_ (by go_grown) hb4
    have hw4 : Below w.heap.size w w4 := Up.then_ hw3 hU4
    have hs4 := hU4.size
    replace hx0 := hx0.up hU4
    replace hx1 := hx1.up hU4
    replace hbox0 := hbox0.up hU4
    replace kas0 := kas0.up hU4
    replace kas1 := kas1.up hU4
    replace yhbox0 := hbox0.two
    replace zhbox0 := fun o => (hbox0.alloc o).two
    replace lhbox0 := hbox0.lt
    have hlen := resColorByOrder_len N0 X0 X1
    have ohx0 := hx0
    have ohx1 := hx1
    have ohow := how
    have ohbox0 := hbox0
    have hX : Up w4 w4 := Up.refl _
    go_wp2_with fail
    refine (toGraph_any _ _ _ _ _ _ (hx0.up (by go_grown)) (by omega)).mono ?_
    rintro e w5 ⟨gax0, rfl, hgx0, kax0, hb5⟩
    have hU5 : Up w4 w5 := Up.then_ (by go_grown) hb5
    replace hX := Up.then_ hX hU5
    have hw5 : Below w.heap.size w w5 := Up.then_ hw4 hU5
    have hs5 := hU5.size
    replace hx0 := hx0.up hU5
    replace hx1 := hx1.up hU5
    replace how := how.up hU5
    replace hbox0 := hbox0.up hU5
    replace yhbox0 := hbox0.two
    replace zhbox0 := fun o => (hbox0.alloc o).two
    replace lhbox0 := hbox0.lt
    have l0kax0 := kax0.lt
    try simp only [World.size_alloc] at hgx0
    have hvar0 := Blk.new w5 45 #[.int .i64 N0, .slice (some ⟨gax0, 0, none⟩) n0 n0]
    go_wp2_with fail
    refine (toIntS_any _ _ _ _ _ (hx1.up (by go_grown)) (by omega)).mono ?_
    rintro e w6 ⟨gax1, rfl, hgx1, kax1, hb6⟩
    have hU6 : Up w5 w6 := Up.then_ (by go_grown) hb6
    replace hX := Up.then_ hX hU6
    have hw6 : Below w.heap.size w w6 := Up.then_ hw5 hU6
    have hs6 := hU6.size
    replace hx0 := hx0.up hU6
    replace hx1 := hx1.up hU6
    replace how := how.up hU6
    replace hbox0 := hbox0.up hU6
    replace kax0 := kax0.up hU6
    replace hvar0 := hvar0.up hb6
    replace yhbox0 := hbox0.two
    replace zhbox0 := fun o => (hbox0.alloc o).two
    replace lhbox0 := hbox0.lt
    have yhvar0 := hvar0.two
    have zhvar0 := fun o => (hvar0.alloc o).two
    have lhvar0 := hvar0.lt
    have l0kax1 := kax1.lt
    try simp only [World.size_alloc] at hgx1
    go_wp2_with fail
    refine (implColorByOrder_law (kax0.ri HX0.out) (by omega) fx0 (kax1.ri HX1.out) (by omega) (Nat.le_refl _) (by omega) fx1).mono ?_
    rintro e w7 ⟨Ag, cg, rfl, hog, hb7⟩
    have hU7 : Up w6 w7 := Up.then_ (by go_grown) hb7
    replace hX := Up.then_ hX hU7
    have hw7 : Below w.heap.size w w7 := Up.then_ hw6 hU7
    have hs7 := hU7.size
    replace hx0 := hx0.up hU7
    replace hx1 := hx1.up hU7
    replace how := how.up hU7
    replace hbox0 := hbox0.up hU7
    replace kax0 := kax0.up hU7
    replace hvar0 := hvar0.up hU7
    replace kax1 := kax1.up hU7
    replace yhbox0 := hbox0.two
    replace zhbox0 := fun o => (hbox0.alloc o).two
    replace lhbox0 := hbox0.lt
    replace yhvar0 := hvar0.two
    replace zhvar0 := fun o => (hvar0.alloc o).two
    replace lhvar0 := hvar0.lt
    replace hog := hog.more (base' := w6.heap.size) (by simp)
    have bhog := hog.block
    go_wp2_with fail
    refine (eqIntS_any _ _ _ _ _ _ _ _ _ hog.ri how.ri (by omega)).mono ?_
    rintro e w8 ⟨rfl, hb8⟩
    have hU8 : Up w7 w8 := Up.then_ (by go_grown) hb8
    replace hX := Up.then_ hX hU8
    have hw8 : Below w.heap.size w w8 := Up.then_ hw7 hU8
    have hs8 := hU8.size
    replace hx0 := hx0.up hU8
    replace hx1 := hx1.up hU8
    replace how := how.up hU8
    replace hog := hog.up hU8
    replace hbox0 := hbox0.up hU8
    replace kax0 := kax0.up hU8
    replace hvar0 := hvar0.up hU8
    replace kax1 := kax1.up hU8
    replace yhbox0 := hbox0.two
    replace zhbox0 := fun o => (hbox0.alloc o).two
    replace lhbox0 := hbox0.lt
    replace yhvar0 := hvar0.two
    replace zhvar0 := fun o => (hvar0.alloc o).two
    replace lhvar0 := hvar0.lt
    go_wp2
    have hV0 : Up w8 w8.drew := (Up.refl _).drew
    go_region_held3 (fun w' => Up w8 w' ∧ ∀ b o, b < w8.heap.size → w'.cell? ⟨b, o, none⟩ = w8.cell? ⟨b, o, none⟩) (first | exact upk hV2 | exact upk hV1 | exact upk hV0)
      (first | (go_at_call 32; refine (toGraph_any _ _ _ _ _ _ (hx0.up hV0) (by omega)).mono ?_; rintro e w9 ⟨gaz0, rfl, hgz0, kaz0, hb9⟩; have hV1 := Up.then_ hV0 hb9) | (go_at_call 34; refine (eqGraph_any _ _ _ _ _ _ _ _ _ _ _  ((kax0.up hV1).ri HX0.out) (kaz0.ri HX0.out) hn0).mono ?_; rintro e w10 ⟨rfl, hb10⟩; have hV2 := Up.then_ hV1 hb10))
    have hU10 := hV2
    clear hV0 hV1 hV2
    replace hX := Up.then_ hX hU10
    have hw10 : Below w.heap.size w w10 := Up.then_ hw8 hU10
    have hs10 := hU10.size
    replace hx0 := hx0.up hU10
    replace hx1 := hx1.up hU10
    replace how := how.up hU10
    replace hog := hog.up hU10
    replace hbox0 := hbox0.up hU10
    replace kax0 := kax0.up hU10
    replace hvar0 := hvar0.up hU10
    replace kax1 := kax1.up hU10
    replace yhbox0 := hbox0.two
    replace zhbox0 := fun o => (hbox0.alloc o).two
    replace lhbox0 := hbox0.lt
    replace yhvar0 := hvar0.two
    replace zhvar0 := fun o => (hvar0.alloc o).two
    replace lhvar0 := hvar0.lt
    go_wp2_with fail
    refine (toIntS_any _ _ _ _ _ (hx1.up (by go_grown)) (by omega)).mono ?_
    rintro e w11 ⟨gaz1, rfl, hgz1, kaz1, hb11⟩
    have hU11 : Up w10 w11 := Up.then_ (by go_grown) hb11
    replace hX := Up.then_ hX hU11
    have hw11 : Below w.heap.size w w11 := Up.then_ hw10 hU11
    have hs11 := hU11.size
    replace hx0 := hx0.up hU11
    replace hx1 := hx1.up hU11
    replace how := how.up hU11
    replace hog := hog.up hU11
    replace hbox0 := hbox0.up hU11
    replace kax0 := kax0.up hU11
    replace hvar0 := hvar0.up hU11
    replace kax1 := kax1.up hU11
    replace yhbox0 := hbox0.two
    replace zhbox0 := fun o => (hbox0.alloc o).two
    replace lhbox0 := hbox0.lt
    replace yhvar0 := hvar0.two
    replace zhvar0 := fun o => (hvar0.alloc o).two
    replace lhvar0 := hvar0.lt
    go_wp2_with fail
    refine (eqIntS_any _ _ _ _ _ _ _ _ _ (kax1.ri HX1.out) (kaz1.ri HX1.out) hn1).mono ?_
    rintro e w12 ⟨rfl, hb12⟩
    have hU12 : Up w11 w12 := Up.then_ (by go_grown) hb12
    replace hX := Up.then_ hX hU12
    have hw12 : Below w.heap.size w w12 := Up.then_ hw11 hU12
    have hs12 := hU12.size
    replace hx0 := hx0.up hU12
    replace hx1 := hx1.up hU12
    replace how := how.up hU12
    replace hog := hog.up hU12
    replace hbox0 := hbox0.up hU12
    replace kax0 := kax0.up hU12
    replace hvar0 := hvar0.up hU12
    replace kax1 := kax1.up hU12
    replace kaz1 := kaz1.up hU12
    replace yhbox0 := hbox0.two
    replace zhbox0 := fun o => (hbox0.alloc o).two
    replace lhbox0 := hbox0.lt
    replace yhvar0 := hvar0.two
    replace zhvar0 := fun o => (hvar0.alloc o).two
    replace lhvar0 := hvar0.lt
    go_wp2_with fail
    refine (markGraph_any _ _ _ _ (1) gax0 _ _ (OwnI.of_blk kax0 HX0.out (by omega)) (by omega) (by omega)).mono ?_
    rintro e w13 ⟨rfl, hg13⟩
    replace hg13 : w12.grownBy w13 (some gax0) := hg13
    replace hX := hX.grown hg13 hX.size (fun k hk => by simp at hk; omega)
    have hw13 : Below w.heap.size w w13 := hw12.grown hg13 hw12.size (fun k hk => by have := hw4.size; simp at hk; omega)
    have hs13 := hg13.size
    replace hog := hog.kept hg13 (.inr (fun e => by have := bhog gax0 e; omega))
    replace kax1 := kax1.grown hg13 (fun e => by simp at e; omega)
    replace hx0 := ohx0.up hX
    replace hx1 := ohx1.up hX
    replace how := ohow.up hX
    replace hbox0 := ohbox0.up hX
    replace yhbox0 := hbox0.two
    replace zhbox0 := fun o => (hbox0.alloc o).two
    replace lhbox0 := hbox0.lt
    go_wp2_with fail
    refine (markIntS_any _ _ _ (1 + n0) gax1 _ _ (OwnI.of_blk kax1 HX1.out (by omega)) (by omega) (by omega)).mono ?_
    rintro e w14 ⟨rfl, _, hg14⟩
    replace hg14 : w13.grownBy w14 (some gax1) := hg14
    replace hX := hX.grown hg14 hX.size (fun k hk => by simp at hk; omega)
    have hw14 : Below w.heap.size w w14 := hw13.grown hg14 hw13.size (fun k hk => by have := hw4.size; simp at hk; omega)
    have hs14 := hg14.size
    replace hog := hog.kept hg14 (.inr (fun e => by have := bhog gax1 e; omega))
    replace hx0 := ohx0.up hX
    replace hx1 := ohx1.up hX
    replace how := ohow.up hX
    replace hbox0 := ohbox0.up hX
    replace yhbox0 := hbox0.two
    replace zhbox0 := fun o => (hbox0.alloc o).two
    replace lhbox0 := hbox0.lt
    go_wp2_with fail
    refine (eqIntS_any _ _ _ _ _ _ _ _ _ hog.ri how.ri (by omega)).mono ?_
    rintro e w15 ⟨rfl, hb15⟩
    have hU15 : Up w14 w15 := Up.then_ (by go_grown) hb15
    replace hX := Up.then_ hX hU15
    have hw15 : Below w.heap.size w w15 := Up.then_ hw14 hU15
    have hs15 := hU15.size
    replace hx0 := hx0.up hU15
    replace hx1 := hx1.up hU15
    replace how := how.up hU15
    replace hog := hog.up hU15
    replace hbox0 := hbox0.up hU15
    replace yhbox0 := hbox0.two
    replace zhbox0 := fun o => (hbox0.alloc o).two
    replace lhbox0 := hbox0.lt
    go_wp2_with fail
    refine (markIntS_any _ _ _ 1 _ _ _ hog (by omega) hlen).mono ?_
    rintro e w16 ⟨rfl, hom, hg16⟩
    replace hX := hX.grown hg16 hX.size (fun k hk => by have := (bhog k hk).1; omega)
    have hw16 : Below w.heap.size w w16 := hw15.grown hg16 hw15.size (fun k hk => by have := hw4.size; have := (bhog k hk).1; omega)
    have hs16 := hg16.size
    replace hog := hom
    clear hom
    replace hx0 := ohx0.up hX
    replace hx1 := ohx1.up hX
    replace how := ohow.up hX
    replace hbox0 := ohbox0.up hX
    replace yhbox0 := hbox0.two
    replace zhbox0 := fun o => (hbox0.alloc o).two
    replace lhbox0 := hbox0.lt
    go_wp2_with fail
    refine (heldIntS_any _ _ _ 1 _ hog.ri (by omega) hlen).mono ?_
    rintro e w17 ⟨rfl, hb17⟩
    have hU17 : Up w16 w17 := Up.then_ (by go_grown) hb17
    replace hX := Up.then_ hX hU17
    have hw17 : Below w.heap.size w w17 := Up.then_ hw16 hU17
    have hs17 := hU17.size
    replace hx0 := hx0.up hU17
    replace hx1 := hx1.up hU17
    replace how := how.up hU17
    replace hog := hog.up hU17
    replace hbox0 := hbox0.up hU17
    replace yhbox0 := hbox0.two
    replace zhbox0 := fun o => (hbox0.alloc o).two
    replace lhbox0 := hbox0.lt
    go_wp2_with fail
    refine (toGraph_any _ _ _ _ _ _ (hx0.up (by go_grown)) (by omega)).mono ?_
    rintro e w18 ⟨gah0, rfl, hgh0, kah0, hb18⟩
    have hU18 : Up w17 w18 := Up.then_ (by go_grown) hb18
    replace hX := Up.then_ hX hU18
    have hw18 : Below w.heap.size w w18 := Up.then_ hw17 hU18
    have hs18 := hU18.size
    replace hx0 := hx0.up hU18
    replace hx1 := hx1.up hU18
    replace how := how.up hU18
    replace hog := hog.up hU18
    replace hbox0 := hbox0.up hU18
    replace yhbox0 := hbox0.two
    replace zhbox0 := fun o => (hbox0.alloc o).two
    replace lhbox0 := hbox0.lt
    go_wp2_with fail
    refine (toIntS_any _ _ _ _ _ (hx1.up (by go_grown)) (by omega)).mono ?_
    rintro e w19 ⟨gah1, rfl, hgh1, kah1, hb19⟩
    have hU19 : Up w18 w19 := Up.then_ (by go_grown) hb19
    replace hX := Up.then_ hX hU19
    have hw19 : Below w.heap.size w w19 := Up.then_ hw18 hU19
    have hs19 := hU19.size
    replace hx0 := hx0.up hU19
    replace hx1 := hx1.up hU19
    replace how := how.up hU19
    replace hog := hog.up hU19
    replace hbox0 := hbox0.up hU19
    replace kah0 := kah0.up hU19
    replace yhbox0 := hbox0.two
    replace zhbox0 := fun o => (hbox0.alloc o).two
    replace lhbox0 := hbox0.lt
    go_wp2_with fail
    refine (implColorByOrder_law (kah0.ri HX0.out) (by omega) fx0 (kah1.ri HX1.out) (by omega) (Nat.le_refl _) (by omega) fx1).mono ?_
    rintro e w20 ⟨Ah, ch, rfl, hoh, hb20⟩
    have hU20 : Up w19 w20 := Up.then_ (by go_grown) hb20
    replace hX := Up.then_ hX hU20
    have hw20 : Below w.heap.size w w20 := Up.then_ hw19 hU20
    have hs20 := hU20.size
    replace hx0 := hx0.up hU20
    replace hx1 := hx1.up hU20
    replace how := how.up hU20
    replace hog := hog.up hU20
    replace hbox0 := hbox0.up hU20
    replace kah0 := kah0.up hU20
    replace kah1 := kah1.up hU20
    replace yhbox0 := hbox0.two
    replace zhbox0 := fun o => (hbox0.alloc o).two
    replace lhbox0 := hbox0.lt
    go_wp2_with fail
    refine (eqIntS_any _ _ _ _ _ _ _ _ _ hoh.ri how.ri (by omega)).mono ?_
    rintro e w21 ⟨rfl, hb21⟩
    have hU21 : Up w20 w21 := Up.then_ (by go_grown) hb21
    replace hX := Up.then_ hX hU21
    have hw21 : Below w.heap.size w w21 := Up.then_ hw20 hU21
    have hs21 := hU21.size
    replace hx0 := hx0.up hU21
    replace hx1 := hx1.up hU21
    replace how := how.up hU21
    replace hog := hog.up hU21
    replace hoh := hoh.up hU21
    replace hbox0 := hbox0.up hU21
    replace yhbox0 := hbox0.two
    replace zhbox0 := fun o => (hbox0.alloc o).two
    replace lhbox0 := hbox0.lt
    go_wp2_with fail
    refine (heldIntS_any _ _ _ 1 _ hog.ri (by omega) hlen).mono ?_
    rintro e w22 ⟨rfl, hb22⟩
    have hU22 : Up w21 w22 := Up.then_ (by go_grown) hb22
    replace hX := Up.then_ hX hU22
    have hw22 : Below w.heap.size w w22 := Up.then_ hw21 hU22
    have hs22 := hU22.size
    replace hx0 := hx0.up hU22
    replace hx1 := hx1.up hU22
    replace how := how.up hU22
    replace hog := hog.up hU22
    replace hoh := hoh.up hU22
    replace hbox0 := hbox0.up hU22
    replace yhbox0 := hbox0.two
    replace zhbox0 := fun o => (hbox0.alloc o).two
    replace lhbox0 := hbox0.lt
    go_wp2
    go_ret
    exact ⟨rfl, hw22⟩
  · go_enter Try.func8, Try.ntmps8
    have hbox0 := Blk.new w 42 #[.int .i64 N0, .slice A0 n0 c0]
    go_wp2_with fail
    refine (szGraph_big _ _ _ _ _ _ (by omega) (by omega) (by omega) hn0).mono ?_
    rintro e w1 ⟨rfl, hb1⟩
    have hU1 : Up w w1 := Up.then_ (by go_grown) hb1
    have hw1 : Below w.heap.size w w1 := hU1
    have hs1 := hU1.size
    replace hx0 := hx0.up hU1
    replace hx1 := hx1.up hU1
    replace hbox0 := hbox0.up hb1
    have yhbox0 := hbox0.two
    have zhbox0 := fun o => (hbox0.alloc o).two
    have lhbox0 := hbox0.lt
    go_wp2
    go_ret
    exact ⟨rfl, hw1⟩


open Go.ChangeShapes Go.WideShapes Go.ChangeAt Go.Joins Go.Deep in
set_option maxRecDepth 100000 in
theorem lawColorByOrder_lifted (os : Os) (started : os.Started) (H : Type) (enc : TypeId × Value → H) :
    ReturnsInHanded {} Try.checked os 8 .any (Rows.fnExactColorByOrderSpec.pre6 enc Try.prog Try.f8 Rows.fnExactColorByOrderRow.domain false) (Rows.fnExactColorByOrderSpec.post enc Try.prog Try.f8 false true false false) := by
  refine returnsInHanded_of_change (C := Try.checked) Try.own_law started (by kernel_rfl) Try.func8
    (ChangeSpec.witness6 (enc := enc) (C := Try.checked) false ⟨#[], #[.agg #[.int .i64 0, .slice none 0 0], .slice none 0 0], []⟩ 8 (by kernel_rfl) (by kernel_rfl) (by kernel_rfl) (by kernel_rfl)) ?_
  intro W base args ds gs before hval0 hW _ _
  have hval : ∀ (j : Nat) t v, Try.f8.params[j]? = some t → args[j]? = some v → Value.okWide Try.prog W .any base t v := hval0
  have hW' := hW
  obtain ⟨p, q, hA0, hV, rfl, _, _⟩ := hW
  have hA : DataW.TrodAll enc Try.prog W 0 (fun _ => true) true Try.f8.params.toList args.toList ds p := hA0
  rw [Try.params8] at hA hval
  obtain ⟨v0, vs0, d0, ds0, p0, q0, hargs, rfl, rfl, h0, r0⟩ := trodAll_cons hA
  obtain ⟨v1, vs1, d1, ds1, p1, q1, rfl, rfl, rfl, h1, r1⟩ := trodAll_cons r0
  obtain ⟨rfl, rfl, rfl⟩ := trodAll_nil r1
  obtain rfl : args = #[v0, v1] := by cases args; simp_all
  obtain ⟨rfl, rfl⟩ := trodVars_none hV
  have t0 := h0
  have lt0 : ∀ x ∈ p0, x.block < W.heap.size := by obtain ⟨m, hm⟩ := t0; exact DataW.trod_lt m _ _ _ hm
  obtain ⟨N0, A0, n0, c0, X0, rfl, hx0, hn0, fx0⟩ := open_nI Try.underlying42 (by kernel_rfl) (by kernel_rfl) rfl rfl Try.underlying22 Try.underlying3 (by kernel_rfl) (hval 0 42 v0 rfl rfl) h0
  have t1 := h1
  have lt1 : ∀ x ∈ p1, x.block < W.heap.size := by obtain ⟨m, hm⟩ := t1; exact DataW.trod_lt m _ _ _ hm
  obtain ⟨A1, n1, c1, X1, rfl, hx1, hn1, fx1⟩ := open_I Try.underlying22 Try.underlying3 (by kernel_rfl) (hval 1 22 v1 rfl rfl) h1
  refine (lawColorByOrder_any N0 A0 n0 c0 X0 A1 n1 c1 X1 W hx0 hn0 fx0 hx1 hn1 fx1).mono fun e W' ⟨he, bel⟩ => ?_
  subst he
  exact ⟨_, rfl, _, _, _, [], _, [], hW', trodAll_mk1 (shut_bool Try.underlying4 _), (trodAll_cons_mk (Below.trod Try.laidOut_law (by kernel_rfl) (of_decide_eq_true (by kernel_rfl)) t0 bel lt0) (trodAll_cons_mk (Below.trod Try.laidOut_law (by kernel_rfl) (of_decide_eq_true (by kernel_rfl)) t1 bel lt1) trodAll_mk0)), rfl, bel.frame _, fun h => by cases h⟩

theorem lawColorByOrder_holds : Rows.FnExactColorByOrderSaid :=
  OpenClaim.holds_of_wide 8 Try.f8 rfl rfl rfl rfl rfl rfl rfl ⟨rfl, rfl, rfl, rfl, rfl⟩ rfl rfl rfl rfl rfl (by kernel_rfl) Try.func8 (by kernel_rfl)
    (of_decide_eq_true (by kernel_rfl)) (by unfold Func.isWrapper; first | (rw [if_pos (by decide +kernel)]; kernel_rfl) | (rw [if_neg (by decide +kernel)]; exact ⟨rfl, rfl⟩))
    (fun os started H enc _ => lawColorByOrder_lifted os started H enc)
#print axioms lawColorByOrder_holds
end Go.Proofs.Ytfodbgogeclifaa
