/- The law FnExactHeightsOf: for all arguments the program's HeightsOf returns what the reference's returns, and leaves its arguments alone. -/
import Derived.Test.YtcaoelihmkbedaaRow
import Derived.Test.YtcaoelihmkbedaaLaw4
import Derived.Test.YtcaoelihmkbedaaConHeightsOf
import Derived.Deep.RegionHeld3
namespace Go.Proofs.Ytcaoelihmkbedaa
open Go.RowKit

set_option maxRecDepth 100000 in
set_option maxHeartbeats 8000000 in
theorem lawHeightsOf_any (N0 : Int) (A0 : Option Addr) (n0 c0 : Nat) (X0 : List Int) (A1 : Option Addr) (n1 c1 : Nat) (X1 : List Int) (w : World) (hx0 : RI w A0 n0 X0) (hn0 : n0 ≤ 9223372036854775807) (fx0 : Fits X0) (hx1 : RI w A1 n1 X1) (hn1 : n1 ≤ 9223372036854775807) (fx1 : Fits X1) :
    Calls Try.prog 14 #[.agg #[.int .i64 N0, .slice A0 n0 c0], .agg #[.slice A1 n1 c1]] w fun e w' => e = .returned (.bool true) ∧ Below w.heap.size w w' := by
  have HX0 := Lib.hid hx0.1
  have HX1 := Lib.hid hx1.1
  by_cases hs : n0 + n1 ≤ 1048576
  · have _hs0 := hs
    go_enter Try.func14, Try.ntmps14
    have hbox0 := (Blk.new w 24 #[.int .i64 N0, .slice A0 n0 c0]).alloc (.cells #[.slice A1 n1 c1] 34)
    have hbox1 := Blk.new_at (w := (w.alloc (.cells #[.int .i64 N0, .slice A0 n0 c0] 24))) (t := 34) (cs := #[.slice A1 n1 c1]) (g := w.heap.size + 1) (by simp)
    go_wp2_with fail
    refine (szGraph_ok _ _ _ _ _ _ (by omega) (by omega)).mono ?_
    rintro e w1 ⟨rfl, hb1⟩
    have hU1 : Up w w1 := Up.then_ (by go_grown) hb1
    have hw1 : Below w.heap.size w w1 := hU1
    have hs1 := hU1.size
    replace hx0 := hx0.up hU1
    replace hx1 := hx1.up hU1
    replace hbox0 := hbox0.up hb1
    replace hbox1 := hbox1.up hb1
    have yhbox0 := hbox0.two
    have zhbox0 := fun o => (hbox0.alloc o).two
    have lhbox0 := hbox0.lt
    have yhbox1 := hbox1.one
    have zhbox1 := fun o => (hbox1.alloc o).one
    have lhbox1 := hbox1.lt
    go_wp2_with fail
    refine (szOrientation_ok _ _ _ _ _ (by omega) (by omega)).mono ?_
    rintro e w2 ⟨rfl, hb2⟩
    have hU2 : Up w1 w2 := Up.then_ (by go_grown) hb2
    have hw2 : Below w.heap.size w w2 := Up.then_ hw1 hU2
    have hs2 := hU2.size
    replace hx0 := hx0.up hU2
    replace hx1 := hx1.up hU2
    replace hbox0 := hbox0.up hU2
    replace hbox1 := hbox1.up hU2
    replace yhbox0 := hbox0.two
    replace zhbox0 := fun o => (hbox0.alloc o).two
    replace lhbox0 := hbox0.lt
    replace yhbox1 := hbox1.one
    replace zhbox1 := fun o => (hbox1.alloc o).one
    replace lhbox1 := hbox1.lt
    go_wp2
    have hV0 : Up w2 w2.drew := (Up.refl _).drew
    go_region_held3 (fun w' => Up w2 w' ∧ ∀ b o, b < w2.heap.size → w'.cell? ⟨b, o, none⟩ = w2.cell? ⟨b, o, none⟩) (first | exact upk hV3 | exact upk hV2 | exact upk hV1 | exact upk hV0)
      (first | (go_at_call 17; refine (toGraph_any _ _ _ _ _ _ (hx0.up hV0) (by omega)).mono ?_; rintro e w3 ⟨gas0, rfl, hgs0, kas0, hb3⟩; have hV1 := Up.then_ hV0 hb3) | (go_at_call 24; refine (toOrientation_any _ _ _ _ _ (hx1.up hV1) (by omega)).mono ?_; rintro e w4 ⟨gas1, rfl, hgs1, kas1, hb4⟩; have hV2 := Up.then_ hV1 hb4) | (go_at_call 53; refine (specHeightsOf_law ((kas0.up hb4).ri HX0.out) (by omega) fx0 (kas1.ri HX1.out) (by omega) fx1).mono ?_; rintro e w5 ⟨Aw, cw, rfl, how, hb5⟩; have hV3 := Up.then_ hV2 hb5))
    have hU5 := hV3
    clear hV0 hV1 hV2 hV3
    have hw5 : Below w.heap.size w w5 := Up.then_ hw2 hU5
    have hs5 := hU5.size
    replace hx0 := hx0.up hU5
    replace hx1 := hx1.up hU5
    replace hbox0 := hbox0.up hU5
    replace hbox1 := hbox1.up hU5
    replace yhbox0 := hbox0.two
    replace zhbox0 := fun o => (hbox0.alloc o).two
    replace lhbox0 := hbox0.lt
    replace yhbox1 := hbox1.one
    replace zhbox1 := fun o => (hbox1.alloc o).one
    replace lhbox1 := hbox1.lt
    have hlen := resHeightsOf_len N0 X0 X1
    have ohx0 := hx0
    have ohx1 := hx1
    have ohow := how
    have ohbox0 := hbox0
    have ohbox1 := hbox1
    have hX : Up w5 w5 := Up.refl _
    go_wp2_with fail
    refine (toGraph_any _ _ _ _ _ _ (hx0.up (by go_grown)) (by omega)).mono ?_
    rintro e w6 ⟨gax0, rfl, hgx0, kax0, hb6⟩
    have hU6 : Up w5 w6 := Up.then_ (by go_grown) hb6
    replace hX := Up.then_ hX hU6
    have hw6 : Below w.heap.size w w6 := Up.then_ hw5 hU6
    have hs6 := hU6.size
    replace hx0 := hx0.up hU6
    replace hx1 := hx1.up hU6
    replace how := how.up hU6
    replace hbox0 := hbox0.up hU6
    replace hbox1 := hbox1.up hU6
    replace yhbox0 := hbox0.two
    replace zhbox0 := fun o => (hbox0.alloc o).two
    replace lhbox0 := hbox0.lt
    replace yhbox1 := hbox1.one
    replace zhbox1 := fun o => (hbox1.alloc o).one
    replace lhbox1 := hbox1.lt
    have l0kax0 := kax0.lt
    try simp only [World.size_alloc] at hgx0
    have hvar0 := Blk.new w6 27 #[.int .i64 N0, .slice (some ⟨gax0, 0, none⟩) n0 n0]
    go_wp2_with fail
    refine (toOrientation_any _ _ _ _ _ (hx1.up (by go_grown)) (by omega)).mono ?_
    rintro e w7 ⟨gax1, rfl, hgx1, kax1, hb7⟩
    have hU7 : Up w6 w7 := Up.then_ (by go_grown) hb7
    replace hX := Up.then_ hX hU7
    have hw7 : Below w.heap.size w w7 := Up.then_ hw6 hU7
    have hs7 := hU7.size
    replace hx0 := hx0.up hU7
    replace hx1 := hx1.up hU7
    replace how := how.up hU7
    replace hbox0 := hbox0.up hU7
    replace hbox1 := hbox1.up hU7
    replace kax0 := kax0.up hU7
    replace hvar0 := hvar0.up hb7
    replace yhbox0 := hbox0.two
    replace zhbox0 := fun o => (hbox0.alloc o).two
    replace lhbox0 := hbox0.lt
    replace yhbox1 := hbox1.one
    replace zhbox1 := fun o => (hbox1.alloc o).one
    replace lhbox1 := hbox1.lt
    have yhvar0 := hvar0.two
    have zhvar0 := fun o => (hvar0.alloc o).two
    have lhvar0 := hvar0.lt
    have l0kax1 := kax1.lt
    try simp only [World.size_alloc] at hgx1
    have hvar1 := Blk.new w7 37 #[.slice (some ⟨gax1, 0, none⟩) n1 n1]
    go_wp2_with fail
    refine (implHeightsOf_law ((kax0.alloc _).ri HX0.out) (by omega) fx0 ((kax1.alloc _).ri HX1.out) (by omega) fx1).mono ?_
    rintro e w8 ⟨Ag, cg, rfl, hog, hb8⟩
    have hU8 : Up w7 w8 := Up.then_ (by go_grown) hb8
    replace hX := Up.then_ hX hU8
    have hw8 : Below w.heap.size w w8 := Up.then_ hw7 hU8
    have hs8 := hU8.size
    replace hx0 := hx0.up hU8
    replace hx1 := hx1.up hU8
    replace how := how.up hU8
    replace hbox0 := hbox0.up hU8
    replace hbox1 := hbox1.up hU8
    replace kax0 := kax0.up hU8
    replace hvar0 := hvar0.up hU8
    replace kax1 := kax1.up hU8
    replace hvar1 := hvar1.up hb8
    replace yhbox0 := hbox0.two
    replace zhbox0 := fun o => (hbox0.alloc o).two
    replace lhbox0 := hbox0.lt
    replace yhbox1 := hbox1.one
    replace zhbox1 := fun o => (hbox1.alloc o).one
    replace lhbox1 := hbox1.lt
    replace yhvar0 := hvar0.two
    replace zhvar0 := fun o => (hvar0.alloc o).two
    replace lhvar0 := hvar0.lt
    have yhvar1 := hvar1.one
    have zhvar1 := fun o => (hvar1.alloc o).one
    have lhvar1 := hvar1.lt
    replace hog := hog.more (base' := w7.heap.size) (by simp)
    have bhog := hog.block
    go_wp2_with fail
    refine (eqIntS_any _ _ _ _ _ _ _ _ _ hog.ri how.ri (by omega)).mono ?_
    rintro e w9 ⟨rfl, hb9⟩
    have hU9 : Up w8 w9 := Up.then_ (by go_grown) hb9
    replace hX := Up.then_ hX hU9
    have hw9 : Below w.heap.size w w9 := Up.then_ hw8 hU9
    have hs9 := hU9.size
    replace hx0 := hx0.up hU9
    replace hx1 := hx1.up hU9
    replace how := how.up hU9
    replace hog := hog.up hU9
    replace hbox0 := hbox0.up hU9
    replace hbox1 := hbox1.up hU9
    replace kax0 := kax0.up hU9
    replace hvar0 := hvar0.up hU9
    replace kax1 := kax1.up hU9
    replace hvar1 := hvar1.up hU9
    replace yhbox0 := hbox0.two
    replace zhbox0 := fun o => (hbox0.alloc o).two
    replace lhbox0 := hbox0.lt
    replace yhbox1 := hbox1.one
    replace zhbox1 := fun o => (hbox1.alloc o).one
    replace lhbox1 := hbox1.lt
    replace yhvar0 := hvar0.two
    replace zhvar0 := fun o => (hvar0.alloc o).two
    replace lhvar0 := hvar0.lt
    replace yhvar1 := hvar1.one
    replace zhvar1 := fun o => (hvar1.alloc o).one
    replace lhvar1 := hvar1.lt
    go_wp2
    have hV0 : Up w9 w9.drew := (Up.refl _).drew
    go_region_held3 (fun w' => Up w9 w' ∧ ∀ b o, b < w9.heap.size → w'.cell? ⟨b, o, none⟩ = w9.cell? ⟨b, o, none⟩) (first | exact upk hV2 | exact upk hV1 | exact upk hV0)
      (first | (go_at_call 17; refine (toGraph_any _ _ _ _ _ _ (hx0.up hV0) (by omega)).mono ?_; rintro e w10 ⟨gaz0, rfl, hgz0, kaz0, hb10⟩; have hV1 := Up.then_ hV0 hb10) | (go_at_call 20; refine (eqGraph_any _ _ _ _ _ _ _ _ _ _ _  ((kax0.up hV1).ri HX0.out) (kaz0.ri HX0.out) hn0).mono ?_; rintro e w11 ⟨rfl, hb11⟩; have hV2 := Up.then_ hV1 hb11))
    have hU11 := hV2
    clear hV0 hV1 hV2
    replace hX := Up.then_ hX hU11
    have hw11 : Below w.heap.size w w11 := Up.then_ hw9 hU11
    have hs11 := hU11.size
    replace hx0 := hx0.up hU11
    replace hx1 := hx1.up hU11
    replace how := how.up hU11
    replace hog := hog.up hU11
    replace hbox0 := hbox0.up hU11
    replace hbox1 := hbox1.up hU11
    replace kax0 := kax0.up hU11
    replace hvar0 := hvar0.up hU11
    replace kax1 := kax1.up hU11
    replace hvar1 := hvar1.up hU11
    replace yhbox0 := hbox0.two
    replace zhbox0 := fun o => (hbox0.alloc o).two
    replace lhbox0 := hbox0.lt
    replace yhbox1 := hbox1.one
    replace zhbox1 := fun o => (hbox1.alloc o).one
    replace lhbox1 := hbox1.lt
    replace yhvar0 := hvar0.two
    replace zhvar0 := fun o => (hvar0.alloc o).two
    replace lhvar0 := hvar0.lt
    replace yhvar1 := hvar1.one
    replace zhvar1 := fun o => (hvar1.alloc o).one
    replace lhvar1 := hvar1.lt
    go_wp2
    have hV0 : Up w11 w11.drew := (Up.refl _).drew
    go_region_held3 (fun w' => Up w11 w' ∧ ∀ b o, b < w11.heap.size → w'.cell? ⟨b, o, none⟩ = w11.cell? ⟨b, o, none⟩) (first | exact upk hV2 | exact upk hV1 | exact upk hV0)
      (first | (go_at_call 24; refine (toOrientation_any _ _ _ _ _ (hx1.up hV0) (by omega)).mono ?_; rintro e w12 ⟨gaz1, rfl, hgz1, kaz1, hb12⟩; have hV1 := Up.then_ hV0 hb12) | (go_at_call 26; refine (eqOrientation_any _ _ _ _ _ _ _ _ _  ((kax1.up hV1).ri HX1.out) (kaz1.ri HX1.out) hn1).mono ?_; rintro e w13 ⟨rfl, hb13⟩; have hV2 := Up.then_ hV1 hb13))
    have hU13 := hV2
    clear hV0 hV1 hV2
    replace hX := Up.then_ hX hU13
    have hw13 : Below w.heap.size w w13 := Up.then_ hw11 hU13
    have hs13 := hU13.size
    replace hx0 := hx0.up hU13
    replace hx1 := hx1.up hU13
    replace how := how.up hU13
    replace hog := hog.up hU13
    replace hbox0 := hbox0.up hU13
    replace hbox1 := hbox1.up hU13
    replace kax0 := kax0.up hU13
    replace hvar0 := hvar0.up hU13
    replace kax1 := kax1.up hU13
    replace hvar1 := hvar1.up hU13
    replace yhbox0 := hbox0.two
    replace zhbox0 := fun o => (hbox0.alloc o).two
    replace lhbox0 := hbox0.lt
    replace yhbox1 := hbox1.one
    replace zhbox1 := fun o => (hbox1.alloc o).one
    replace lhbox1 := hbox1.lt
    replace yhvar0 := hvar0.two
    replace zhvar0 := fun o => (hvar0.alloc o).two
    replace lhvar0 := hvar0.lt
    replace yhvar1 := hvar1.one
    replace zhvar1 := fun o => (hvar1.alloc o).one
    replace lhvar1 := hvar1.lt
    go_wp2_with fail
    refine (markGraph_any _ _ _ _ (1) gax0 _ _ (OwnI.of_blk kax0 HX0.out (by omega)) (by omega) (by omega)).mono ?_
    rintro e w14 ⟨rfl, hg14⟩
    replace hg14 : w13.grownBy w14 (some gax0) := hg14
    replace hX := hX.grown hg14 hX.size (fun k hk => by simp at hk; omega)
    have hw14 : Below w.heap.size w w14 := hw13.grown hg14 hw13.size (fun k hk => by have := hw5.size; simp at hk; omega)
    have hs14 := hg14.size
    replace hog := hog.kept hg14 (.inr (fun e => by have := bhog gax0 e; omega))
    replace kax1 := kax1.grown hg14 (fun e => by simp at e; omega)
    replace hvar1 := hvar1.grown hg14 (fun e => by simp at e; omega)
    replace hx0 := ohx0.up hX
    replace hx1 := ohx1.up hX
    replace how := ohow.up hX
    replace hbox0 := ohbox0.up hX
    replace hbox1 := ohbox1.up hX
    replace yhbox0 := hbox0.two
    replace zhbox0 := fun o => (hbox0.alloc o).two
    replace lhbox0 := hbox0.lt
    replace yhbox1 := hbox1.one
    replace zhbox1 := fun o => (hbox1.alloc o).one
    replace lhbox1 := hbox1.lt
    replace yhvar1 := hvar1.one
    replace zhvar1 := fun o => (hvar1.alloc o).one
    replace lhvar1 := hvar1.lt
    go_wp2_with fail
    refine (markOrientation_any _ _ _ (1 + n0) gax1 _ _ (OwnI.of_blk kax1 HX1.out (by omega)) (by omega) (by omega)).mono ?_
    rintro e w15 ⟨rfl, hg15⟩
    replace hg15 : w14.grownBy w15 (some gax1) := hg15
    replace hX := hX.grown hg15 hX.size (fun k hk => by simp at hk; omega)
    have hw15 : Below w.heap.size w w15 := hw14.grown hg15 hw14.size (fun k hk => by have := hw5.size; simp at hk; omega)
    have hs15 := hg15.size
    replace hog := hog.kept hg15 (.inr (fun e => by have := bhog gax1 e; omega))
    replace hx0 := ohx0.up hX
    replace hx1 := ohx1.up hX
    replace how := ohow.up hX
    replace hbox0 := ohbox0.up hX
    replace hbox1 := ohbox1.up hX
    replace yhbox0 := hbox0.two
    replace zhbox0 := fun o => (hbox0.alloc o).two
    replace lhbox0 := hbox0.lt
    replace yhbox1 := hbox1.one
    replace zhbox1 := fun o => (hbox1.alloc o).one
    replace lhbox1 := hbox1.lt
    go_wp2_with fail
    refine (eqIntS_any _ _ _ _ _ _ _ _ _ hog.ri how.ri (by omega)).mono ?_
    rintro e w16 ⟨rfl, hb16⟩
    have hU16 : Up w15 w16 := Up.then_ (by go_grown) hb16
    replace hX := Up.then_ hX hU16
    have hw16 : Below w.heap.size w w16 := Up.then_ hw15 hU16
    have hs16 := hU16.size
    replace hx0 := hx0.up hU16
    replace hx1 := hx1.up hU16
    replace how := how.up hU16
    replace hog := hog.up hU16
    replace hbox0 := hbox0.up hU16
    replace hbox1 := hbox1.up hU16
    replace yhbox0 := hbox0.two
    replace zhbox0 := fun o => (hbox0.alloc o).two
    replace lhbox0 := hbox0.lt
    replace yhbox1 := hbox1.one
    replace zhbox1 := fun o => (hbox1.alloc o).one
    replace lhbox1 := hbox1.lt
    go_wp2_with fail
    refine (markIntS_any _ _ _ 1 _ _ _ hog (by omega) hlen).mono ?_
    rintro e w17 ⟨rfl, hom, hg17⟩
    replace hX := hX.grown hg17 hX.size (fun k hk => by have := (bhog k hk).1; omega)
    have hw17 : Below w.heap.size w w17 := hw16.grown hg17 hw16.size (fun k hk => by have := hw5.size; have := (bhog k hk).1; omega)
    have hs17 := hg17.size
    replace hog := hom
    clear hom
    replace hx0 := ohx0.up hX
    replace hx1 := ohx1.up hX
    replace how := ohow.up hX
    replace hbox0 := ohbox0.up hX
    replace hbox1 := ohbox1.up hX
    replace yhbox0 := hbox0.two
    replace zhbox0 := fun o => (hbox0.alloc o).two
    replace lhbox0 := hbox0.lt
    replace yhbox1 := hbox1.one
    replace zhbox1 := fun o => (hbox1.alloc o).one
    replace lhbox1 := hbox1.lt
    go_wp2_with fail
    refine (heldIntS_any _ _ _ 1 _ hog.ri (by omega) hlen).mono ?_
    rintro e w18 ⟨rfl, hb18⟩
    have hU18 : Up w17 w18 := Up.then_ (by go_grown) hb18
    replace hX := Up.then_ hX hU18
    have hw18 : Below w.heap.size w w18 := Up.then_ hw17 hU18
    have hs18 := hU18.size
    replace hx0 := hx0.up hU18
    replace hx1 := hx1.up hU18
    replace how := how.up hU18
    replace hog := hog.up hU18
    replace hbox0 := hbox0.up hU18
    replace hbox1 := hbox1.up hU18
    replace yhbox0 := hbox0.two
    replace zhbox0 := fun o => (hbox0.alloc o).two
    replace lhbox0 := hbox0.lt
    replace yhbox1 := hbox1.one
    replace zhbox1 := fun o => (hbox1.alloc o).one
    replace lhbox1 := hbox1.lt
    go_wp2
    have hV0 : Up w18 w18.drew := (Up.refl _).drew
    go_region_held3 (fun w' => Up w18 w' ∧ ∀ b o, b < w18.heap.size → w'.cell? ⟨b, o, none⟩ = w18.cell? ⟨b, o, none⟩) (first | exact upk hV3 | exact upk hV2 | exact upk hV1 | exact upk hV0)
      (first | (go_at_call 17; refine (toGraph_any _ _ _ _ _ _ (hx0.up hV0) (by omega)).mono ?_; rintro e w19 ⟨gah0, rfl, hgh0, kah0, hb19⟩; have hV1 := Up.then_ hV0 hb19) | (go_at_call 24; refine (toOrientation_any _ _ _ _ _ (hx1.up hV1) (by omega)).mono ?_; rintro e w20 ⟨gah1, rfl, hgh1, kah1, hb20⟩; have hV2 := Up.then_ hV1 hb20) | (go_at_call 54; refine (implHeightsOf_law ((kah0.up hb20).ri HX0.out) (by omega) fx0 (kah1.ri HX1.out) (by omega) fx1).mono ?_; rintro e w21 ⟨Ah, ch, rfl, hoh, hb21⟩; have hV3 := Up.then_ hV2 hb21))
    have hU21 := hV3
    clear hV0 hV1 hV2 hV3
    replace hX := Up.then_ hX hU21
    have hw21 : Below w.heap.size w w21 := Up.then_ hw18 hU21
    have hs21 := hU21.size
    replace hx0 := hx0.up hU21
    replace hx1 := hx1.up hU21
    replace how := how.up hU21
    replace hog := hog.up hU21
    replace hbox0 := hbox0.up hU21
    replace hbox1 := hbox1.up hU21
    replace yhbox0 := hbox0.two
    replace zhbox0 := fun o => (hbox0.alloc o).two
    replace lhbox0 := hbox0.lt
    replace yhbox1 := hbox1.one
    replace zhbox1 := fun o => (hbox1.alloc o).one
    replace lhbox1 := hbox1.lt
    go_wp2_with fail
    refine (eqIntS_any _ _ _ _ _ _ _ _ _ hoh.ri how.ri (by omega)).mono ?_
    rintro e w22 ⟨rfl, hb22⟩
    have hU22 : Up w21 w22 := Up.then_ (by go_grown) hb22
    replace hX := Up.then_ hX hU22
    have hw22 : Below w.heap.size w w22 := Up.then_ hw21 hU22
    have hs22 := hU22.size
    replace hx0 := hx0.up hU22
    replace hx1 := hx1.up hU22
    replace how := how.up hU22
    replace hog := hog.up hU22
    replace hoh := hoh.up hU22
    replace hbox0 := hbox0.up hU22
    replace hbox1 := hbox1.up hU22
    replace yhbox0 := hbox0.two
    replace zhbox0 := fun o => (hbox0.alloc o).two
    replace lhbox0 := hbox0.lt
    replace yhbox1 := hbox1.one
    replace zhbox1 := fun o => (hbox1.alloc o).one
    replace lhbox1 := hbox1.lt
    go_wp2_with fail
    refine (heldIntS_any _ _ _ 1 _ hog.ri (by omega) hlen).mono ?_
    rintro e w23 ⟨rfl, hb23⟩
    have hU23 : Up w22 w23 := Up.then_ (by go_grown) hb23
    replace hX := Up.then_ hX hU23
    have hw23 : Below w.heap.size w w23 := Up.then_ hw22 hU23
    have hs23 := hU23.size
    replace hx0 := hx0.up hU23
    replace hx1 := hx1.up hU23
    replace how := how.up hU23
    replace hog := hog.up hU23
    replace hoh := hoh.up hU23
    replace hbox0 := hbox0.up hU23
    replace hbox1 := hbox1.up hU23
    replace yhbox0 := hbox0.two
    replace zhbox0 := fun o => (hbox0.alloc o).two
    replace lhbox0 := hbox0.lt
    replace yhbox1 := hbox1.one
    replace zhbox1 := fun o => (hbox1.alloc o).one
    replace lhbox1 := hbox1.lt
    go_wp2
    go_ret
    exact ⟨rfl, hw23⟩
  · by_cases ht0 : n0 ≤ 1048576
    · go_enter Try.func14, Try.ntmps14
      have hbox0 := (Blk.new w 24 #[.int .i64 N0, .slice A0 n0 c0]).alloc (.cells #[.slice A1 n1 c1] 34)
      have hbox1 := Blk.new_at (w := (w.alloc (.cells #[.int .i64 N0, .slice A0 n0 c0] 24))) (t := 34) (cs := #[.slice A1 n1 c1]) (g := w.heap.size + 1) (by simp)
      go_wp2_with fail
      refine (szGraph_ok _ _ _ _ _ _ (by omega) (by omega)).mono ?_
      rintro e w1 ⟨rfl, hb1⟩
      have hU1 : Up w w1 := Up.then_ (by go_grown) hb1
      have hw1 : Below w.heap.size w w1 := hU1
      have hs1 := hU1.size
      replace hx0 := hx0.up hU1
      replace hx1 := hx1.up hU1
      replace hbox0 := hbox0.up hb1
      replace hbox1 := hbox1.up hb1
      have yhbox0 := hbox0.two
      have zhbox0 := fun o => (hbox0.alloc o).two
      have lhbox0 := hbox0.lt
      have yhbox1 := hbox1.one
      have zhbox1 := fun o => (hbox1.alloc o).one
      have lhbox1 := hbox1.lt
      go_wp2_with fail
      refine (szOrientation_big _ _ _ _ _ (by omega) (by omega) (by omega) hn1).mono ?_
      rintro e w2 ⟨rfl, hb2⟩
      have hU2 : Up w1 w2 := Up.then_ (by go_grown) hb2
      have hw2 : Below w.heap.size w w2 := Up.then_ hw1 hU2
      have hs2 := hU2.size
      replace hx0 := hx0.up hU2
      replace hx1 := hx1.up hU2
      replace hbox0 := hbox0.up hU2
      replace hbox1 := hbox1.up hU2
      replace yhbox0 := hbox0.two
      replace zhbox0 := fun o => (hbox0.alloc o).two
      replace lhbox0 := hbox0.lt
      replace yhbox1 := hbox1.one
      replace zhbox1 := fun o => (hbox1.alloc o).one
      replace lhbox1 := hbox1.lt
      go_wp2
      go_ret
      exact ⟨rfl, hw2⟩
    · go_enter Try.func14, Try.ntmps14
      have hbox0 := (Blk.new w 24 #[.int .i64 N0, .slice A0 n0 c0]).alloc (.cells #[.slice A1 n1 c1] 34)
      have hbox1 := Blk.new_at (w := (w.alloc (.cells #[.int .i64 N0, .slice A0 n0 c0] 24))) (t := 34) (cs := #[.slice A1 n1 c1]) (g := w.heap.size + 1) (by simp)
      go_wp2_with fail
      refine (szGraph_big _ _ _ _ _ _ (by omega) (by omega) (by omega) hn0).mono ?_
      rintro e w1 ⟨rfl, hb1⟩
      have hU1 : Up w w1 := Up.then_ (by go_grown) hb1
      have hw1 : Below w.heap.size w w1 := hU1
      have hs1 := hU1.size
      replace hx0 := hx0.up hU1
      replace hx1 := hx1.up hU1
      replace hbox0 := hbox0.up hb1
      replace hbox1 := hbox1.up hb1
      have yhbox0 := hbox0.two
      have zhbox0 := fun o => (hbox0.alloc o).two
      have lhbox0 := hbox0.lt
      have yhbox1 := hbox1.one
      have zhbox1 := fun o => (hbox1.alloc o).one
      have lhbox1 := hbox1.lt
      go_wp2
      go_ret
      exact ⟨rfl, hw1⟩


open Go.ChangeShapes Go.WideShapes Go.ChangeAt Go.Joins Go.Deep in
set_option maxRecDepth 100000 in
theorem lawHeightsOf_lifted (os : Os) (started : os.Started) (H : Type) (enc : TypeId × Value → H) :
    ReturnsInHanded {} Try.checked os 14 .any (Rows.fnExactHeightsOfSpec.pre6 enc Try.prog Try.f14 Rows.fnExactHeightsOfRow.domain false) (Rows.fnExactHeightsOfSpec.post enc Try.prog Try.f14 false true false false) := by
  refine returnsInHanded_of_change (C := Try.checked) Try.own_law started (by kernel_rfl) Try.func14
    (ChangeSpec.witness6 (enc := enc) (C := Try.checked) false ⟨#[], #[.agg #[.int .i64 0, .slice none 0 0], .agg #[.slice none 0 0]], []⟩ 8 (by kernel_rfl) (by kernel_rfl) (by kernel_rfl) (by kernel_rfl)) ?_
  intro W base args ds gs before hval0 hW _ _
  have hval : ∀ (j : Nat) t v, Try.f14.params[j]? = some t → args[j]? = some v → Value.okWide Try.prog W .any base t v := hval0
  have hW' := hW
  obtain ⟨p, q, hA0, hV, rfl, _, _⟩ := hW
  have hA : DataW.TrodAll enc Try.prog W 0 (fun _ => true) true Try.f14.params.toList args.toList ds p := hA0
  rw [Try.params14] at hA hval
  obtain ⟨v0, vs0, d0, ds0, p0, q0, hargs, rfl, rfl, h0, r0⟩ := trodAll_cons hA
  obtain ⟨v1, vs1, d1, ds1, p1, q1, rfl, rfl, rfl, h1, r1⟩ := trodAll_cons r0
  obtain ⟨rfl, rfl, rfl⟩ := trodAll_nil r1
  obtain rfl : args = #[v0, v1] := by cases args; simp_all
  obtain ⟨rfl, rfl⟩ := trodVars_none hV
  have t0 := h0
  have lt0 : ∀ x ∈ p0, x.block < W.heap.size := by obtain ⟨m, hm⟩ := t0; exact DataW.trod_lt m _ _ _ hm
  obtain ⟨N0, A0, n0, c0, X0, rfl, hx0, hn0, fx0⟩ := open_nI Try.underlying24 (by kernel_rfl) (by kernel_rfl) rfl rfl Try.underlying22 Try.underlying3 (by kernel_rfl) (hval 0 24 v0 rfl rfl) h0
  have t1 := h1
  have lt1 : ∀ x ∈ p1, x.block < W.heap.size := by obtain ⟨m, hm⟩ := t1; exact DataW.trod_lt m _ _ _ hm
  obtain ⟨A1, n1, c1, X1, rfl, hx1, hn1, fx1⟩ := open_1I Try.underlying34 (by kernel_rfl) (by kernel_rfl) rfl Try.underlying22 Try.underlying3 (by kernel_rfl) (hval 1 34 v1 rfl rfl) h1
  refine (lawHeightsOf_any N0 A0 n0 c0 X0 A1 n1 c1 X1 W hx0 hn0 fx0 hx1 hn1 fx1).mono fun e W' ⟨he, bel⟩ => ?_
  subst he
  exact ⟨_, rfl, _, _, _, [], _, [], hW', trodAll_mk1 (shut_bool Try.underlying4 _), (trodAll_cons_mk (Below.trod Try.laidOut_law (by kernel_rfl) (of_decide_eq_true (by kernel_rfl)) t0 bel lt0) (trodAll_cons_mk (Below.trod Try.laidOut_law (by kernel_rfl) (of_decide_eq_true (by kernel_rfl)) t1 bel lt1) trodAll_mk0)), rfl, bel.frame _, fun h => by cases h⟩

theorem lawHeightsOf_holds : Rows.FnExactHeightsOfSaid :=
  OpenClaim.holds_of_wide 14 Try.f14 rfl rfl rfl rfl rfl rfl rfl ⟨rfl, rfl, rfl, rfl, rfl⟩ rfl rfl rfl rfl rfl (by kernel_rfl) Try.func14 (by kernel_rfl)
    (of_decide_eq_true (by kernel_rfl)) (by unfold Func.isWrapper; first | (rw [if_pos (by decide +kernel)]; kernel_rfl) | (rw [if_neg (by decide +kernel)]; exact ⟨rfl, rfl⟩))
    (fun os started H enc _ => lawHeightsOf_lifted os started H enc)
#print axioms lawHeightsOf_holds
end Go.Proofs.Ytcaoelihmkbedaa
