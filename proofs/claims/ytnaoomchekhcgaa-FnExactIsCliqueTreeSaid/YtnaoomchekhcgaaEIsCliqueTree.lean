/- The law FnExactIsCliqueTree: for all arguments the program's IsCliqueTree returns what the reference's returns, and leaves its arguments alone. -/
import Derived.Test.YtnaoomchekhcgaaRow
import Derived.Test.YtnaoomchekhcgaaConIsCliqueTree
import Derived.Deep.RegionHeld3
namespace Go.Proofs.Ytnaoomchekhcgaa
open Go.RowKit

set_option maxRecDepth 100000 in
set_option maxHeartbeats 4000000 in
theorem lawIsCliqueTree_any (N0 : Int) (A0 : Option Addr) (n0 c0 : Nat) (X0 : List Int) (A1 : Option Addr) (n1 c1 : Nat) (X1 : List Int) (B1 : Option Addr) (m1 d1 : Nat) (Y1 : List Int) (w : World) (hx0 : RI w A0 n0 X0) (hn0 : n0 ≤ 9223372036854775807) (fx0 : Fits X0) (hx1 : RI w A1 n1 X1) (hy1 : RI w B1 m1 Y1) (hn1 : n1 ≤ 9223372036854775807) (hm1 : m1 ≤ 9223372036854775807) (fx1 : Fits X1) (fy1 : Fits Y1) :
    Calls Try.prog 10 #[.agg #[.int .i64 N0, .slice A0 n0 c0], .agg #[.slice A1 n1 c1, .slice B1 m1 d1]] w fun e w' => e = .returned (.bool true) ∧ Below w.heap.size w w' := by
  have HX0 := Lib.hid hx0.1
  have HX1 := Lib.hid hx1.1
  have HY1 := Lib.hid hy1.1
  by_cases hs : n0 + n1 + m1 ≤ 1048576
  · have _hs0 := hs
    go_enter Try.func10, Try.ntmps10
    have hbox0 := (Blk.new w 24 #[.int .i64 N0, .slice A0 n0 c0]).alloc (.cells #[.slice A1 n1 c1, .slice B1 m1 d1] 49)
    have hbox1 := Blk.new_at (w := (w.alloc (.cells #[.int .i64 N0, .slice A0 n0 c0] 24))) (t := 49) (cs := #[.slice A1 n1 c1, .slice B1 m1 d1]) (g := w.heap.size + 1) (by simp)
    go_wp2_with fail
    refine (szGraph_ok _ _ _ _ _ _ (by omega) (by omega)).mono ?_
    rintro e w1 ⟨rfl, hb1⟩
    have hw1 : Below w.heap.size w w1 := Up.then_ (by go_grown) hb1
    replace hx0 := ((hx0.alloc (.cells #[.int .i64 N0, .slice A0 n0 c0] 24)).alloc (.cells #[.slice A1 n1 c1, .slice B1 m1 d1] 49)).up hb1
    replace hx1 := ((hx1.alloc (.cells #[.int .i64 N0, .slice A0 n0 c0] 24)).alloc (.cells #[.slice A1 n1 c1, .slice B1 m1 d1] 49)).up hb1
    replace hy1 := ((hy1.alloc (.cells #[.int .i64 N0, .slice A0 n0 c0] 24)).alloc (.cells #[.slice A1 n1 c1, .slice B1 m1 d1] 49)).up hb1
    replace hbox0 := hbox0.up hb1
    replace hbox1 := hbox1.up hb1
    have yhbox0 := hbox0.two
    have zhbox0 := fun o => (hbox0.alloc o).two
    have lhbox0 := hbox0.lt
    have yhbox1 := hbox1.two
    have zhbox1 := fun o => (hbox1.alloc o).two
    have lhbox1 := hbox1.lt
    go_wp2_with fail
    refine (szTree_ok _ _ _ _ _ _ _ _ (by omega) (by omega)).mono ?_
    rintro e w2 ⟨rfl, hb2⟩
    have hw2 : Below w.heap.size w w2 := Up.then_ (by go_grown) hb2
    replace hx0 := hx0.up hb2
    replace hx1 := hx1.up hb2
    replace hy1 := hy1.up hb2
    replace hbox0 := hbox0.up hb2
    replace hbox1 := hbox1.up hb2
    replace yhbox0 := hbox0.two
    replace zhbox0 := fun o => (hbox0.alloc o).two
    replace lhbox0 := hbox0.lt
    replace yhbox1 := hbox1.two
    replace zhbox1 := fun o => (hbox1.alloc o).two
    replace lhbox1 := hbox1.lt
    go_wp2
    have hU0 : Up w2 w2.drew := (Up.refl _).drew
    go_region_held3 (fun w' => Up w2 w' ∧ ∀ b o, b < w2.heap.size → w'.cell? ⟨b, o, none⟩ = w2.cell? ⟨b, o, none⟩) (first | exact upk hU3 | exact upk hU2 | exact upk hU1 | exact upk hU0)
      (first | (go_at_call 13; refine (toGraph_any _ _ _ _ _ _ (hx0.up hU0) (by omega)).mono ?_; rintro e w3 ⟨gas0, rfl, hgs0, kas0, hb3⟩; have hU1 := Up.then_ hU0 hb3) | (go_at_call 36; refine (toTree_any _ _ _ _ _ _ _ _ _ (hx1.up hU1) (hy1.up hU1) (by omega) (by omega)).mono ?_; rintro e w4 ⟨gas1, gbs1, rfl, hgs1, hggs1, kas1, kbs1, hb4⟩; have hU2 := Up.then_ hU1 hb4) | (go_at_call 41; refine (specIsCliqueTree_law ((kas0.up hb4).ri HX0.out) (by omega) fx0 (kas1.ri HX1.out) (kbs1.ri HY1.out) (by omega) (by omega) fx1 fy1).mono ?_; rintro e w5 ⟨rfl, hb5⟩; have hU3 := Up.then_ hU2 hb5))
    have hw5 : Below w.heap.size w w5 := Up.then_ hw2 hU3
    replace hx0 := hx0.up hU3
    replace hx1 := hx1.up hU3
    replace hy1 := hy1.up hU3
    replace hbox0 := hbox0.up hU3
    replace hbox1 := hbox1.up hU3
    replace yhbox0 := hbox0.two
    replace zhbox0 := fun o => (hbox0.alloc o).two
    replace lhbox0 := hbox0.lt
    replace yhbox1 := hbox1.two
    replace zhbox1 := fun o => (hbox1.alloc o).two
    replace lhbox1 := hbox1.lt
    clear hU0 hU1 hU2 hU3
    go_wp2_with fail
    refine (toGraph_any _ _ _ _ _ _ hx0 (by omega)).mono ?_
    rintro e w6 ⟨gax0, rfl, hgx0, kax0, hb6⟩
    have hw6 : Below w.heap.size w w6 := Up.then_ (by go_grown) hb6
    replace hx0 := hx0.up hb6
    replace hx1 := hx1.up hb6
    replace hy1 := hy1.up hb6
    replace hbox0 := hbox0.up hb6
    replace hbox1 := hbox1.up hb6
    replace yhbox0 := hbox0.two
    replace zhbox0 := fun o => (hbox0.alloc o).two
    replace lhbox0 := hbox0.lt
    replace yhbox1 := hbox1.two
    replace zhbox1 := fun o => (hbox1.alloc o).two
    replace lhbox1 := hbox1.lt
    have hvar0 := Blk.new w6 27 #[.int .i64 N0, .slice (some ⟨gax0, 0, none⟩) n0 n0]
    go_wp2_with fail
    refine (toTree_any _ _ _ _ _ _ _ _ _ (hx1.alloc (.cells #[.int .i64 N0, .slice (some ⟨gax0, 0, none⟩) n0 n0] 27)) (hy1.alloc (.cells #[.int .i64 N0, .slice (some ⟨gax0, 0, none⟩) n0 n0] 27)) (by omega) (by omega)).mono ?_
    rintro e w7 ⟨gax1, gbx1, rfl, hgx1, hggx1, kax1, kbx1, hb7⟩
    have hw7 : Below w.heap.size w w7 := Up.then_ (by go_grown) hb7
    replace hx0 := (hx0.alloc (.cells #[.int .i64 N0, .slice (some ⟨gax0, 0, none⟩) n0 n0] 27)).up hb7
    replace hx1 := (hx1.alloc (.cells #[.int .i64 N0, .slice (some ⟨gax0, 0, none⟩) n0 n0] 27)).up hb7
    replace hy1 := (hy1.alloc (.cells #[.int .i64 N0, .slice (some ⟨gax0, 0, none⟩) n0 n0] 27)).up hb7
    replace hbox0 := (hbox0.alloc (.cells #[.int .i64 N0, .slice (some ⟨gax0, 0, none⟩) n0 n0] 27)).up hb7
    replace hbox1 := (hbox1.alloc (.cells #[.int .i64 N0, .slice (some ⟨gax0, 0, none⟩) n0 n0] 27)).up hb7
    replace kax0 := (kax0.alloc (.cells #[.int .i64 N0, .slice (some ⟨gax0, 0, none⟩) n0 n0] 27)).up hb7
    replace hvar0 := hvar0.up hb7
    replace yhbox0 := hbox0.two
    replace zhbox0 := fun o => (hbox0.alloc o).two
    replace lhbox0 := hbox0.lt
    replace yhbox1 := hbox1.two
    replace zhbox1 := fun o => (hbox1.alloc o).two
    replace lhbox1 := hbox1.lt
    have yhvar0 := hvar0.two
    have zhvar0 := fun o => (hvar0.alloc o).two
    have lhvar0 := hvar0.lt
    have hvar1 := Blk.new w7 33 #[.slice (some ⟨gax1, 0, none⟩) n1 n1, .slice (some ⟨gbx1, 0, none⟩) m1 m1]
    go_wp2_with fail
    refine (implIsCliqueTree_law ((kax0.alloc (.cells #[.slice (some ⟨gax1, 0, none⟩) n1 n1, .slice (some ⟨gbx1, 0, none⟩) m1 m1] 33)).ri HX0.out) (by omega) fx0 ((kax1.alloc (.cells #[.slice (some ⟨gax1, 0, none⟩) n1 n1, .slice (some ⟨gbx1, 0, none⟩) m1 m1] 33)).ri HX1.out) ((kbx1.alloc (.cells #[.slice (some ⟨gax1, 0, none⟩) n1 n1, .slice (some ⟨gbx1, 0, none⟩) m1 m1] 33)).ri HY1.out) (by omega) (by omega) fx1 fy1).mono ?_
    rintro e w8 ⟨rfl, hb8⟩
    have hw8 : Below w.heap.size w w8 := Up.then_ (by go_grown) hb8
    replace hx0 := (hx0.alloc (.cells #[.slice (some ⟨gax1, 0, none⟩) n1 n1, .slice (some ⟨gbx1, 0, none⟩) m1 m1] 33)).up hb8
    replace hx1 := (hx1.alloc (.cells #[.slice (some ⟨gax1, 0, none⟩) n1 n1, .slice (some ⟨gbx1, 0, none⟩) m1 m1] 33)).up hb8
    replace hy1 := (hy1.alloc (.cells #[.slice (some ⟨gax1, 0, none⟩) n1 n1, .slice (some ⟨gbx1, 0, none⟩) m1 m1] 33)).up hb8
    replace hbox0 := (hbox0.alloc (.cells #[.slice (some ⟨gax1, 0, none⟩) n1 n1, .slice (some ⟨gbx1, 0, none⟩) m1 m1] 33)).up hb8
    replace hbox1 := (hbox1.alloc (.cells #[.slice (some ⟨gax1, 0, none⟩) n1 n1, .slice (some ⟨gbx1, 0, none⟩) m1 m1] 33)).up hb8
    replace kax0 := (kax0.alloc (.cells #[.slice (some ⟨gax1, 0, none⟩) n1 n1, .slice (some ⟨gbx1, 0, none⟩) m1 m1] 33)).up hb8
    replace hvar0 := (hvar0.alloc (.cells #[.slice (some ⟨gax1, 0, none⟩) n1 n1, .slice (some ⟨gbx1, 0, none⟩) m1 m1] 33)).up hb8
    replace kax1 := (kax1.alloc (.cells #[.slice (some ⟨gax1, 0, none⟩) n1 n1, .slice (some ⟨gbx1, 0, none⟩) m1 m1] 33)).up hb8
    replace kbx1 := (kbx1.alloc (.cells #[.slice (some ⟨gax1, 0, none⟩) n1 n1, .slice (some ⟨gbx1, 0, none⟩) m1 m1] 33)).up hb8
    replace hvar1 := hvar1.up hb8
    replace yhbox0 := hbox0.two
    replace zhbox0 := fun o => (hbox0.alloc o).two
    replace lhbox0 := hbox0.lt
    replace yhbox1 := hbox1.two
    replace zhbox1 := fun o => (hbox1.alloc o).two
    replace lhbox1 := hbox1.lt
    replace yhvar0 := hvar0.two
    replace zhvar0 := fun o => (hvar0.alloc o).two
    replace lhvar0 := hvar0.lt
    have yhvar1 := hvar1.two
    have zhvar1 := fun o => (hvar1.alloc o).two
    have lhvar1 := hvar1.lt
    go_wp2
    have hU0 : Up w8 w8.drew := (Up.refl _).drew
    go_region_held3 (fun w' => Up w8 w' ∧ ∀ b o, b < w8.heap.size → w'.cell? ⟨b, o, none⟩ = w8.cell? ⟨b, o, none⟩) (first | exact upk hU2 | exact upk hU1 | exact upk hU0)
      (first | (go_at_call 13; refine (toGraph_any _ _ _ _ _ _ (hx0.up hU0) (by omega)).mono ?_; rintro e w9 ⟨gaz0, rfl, hgz0, kaz0, hb9⟩; have hU1 := Up.then_ hU0 hb9) | (go_at_call 15; refine (eqGraph_any _ _ _ _ _ _ _ _ _ _ _  ((kax0.up hU1).ri HX0.out) (kaz0.ri HX0.out) hn0).mono ?_; rintro e w10 ⟨rfl, hb10⟩; have hU2 := Up.then_ hU1 hb10))
    have hw10 : Below w.heap.size w w10 := Up.then_ hw8 hU2
    replace hx0 := hx0.up hU2
    replace hx1 := hx1.up hU2
    replace hy1 := hy1.up hU2
    replace hbox0 := hbox0.up hU2
    replace hbox1 := hbox1.up hU2
    replace kax0 := kax0.up hU2
    replace hvar0 := hvar0.up hU2
    replace kax1 := kax1.up hU2
    replace kbx1 := kbx1.up hU2
    replace hvar1 := hvar1.up hU2
    replace yhbox0 := hbox0.two
    replace zhbox0 := fun o => (hbox0.alloc o).two
    replace lhbox0 := hbox0.lt
    replace yhbox1 := hbox1.two
    replace zhbox1 := fun o => (hbox1.alloc o).two
    replace lhbox1 := hbox1.lt
    replace yhvar0 := hvar0.two
    replace zhvar0 := fun o => (hvar0.alloc o).two
    replace lhvar0 := hvar0.lt
    replace yhvar1 := hvar1.two
    replace zhvar1 := fun o => (hvar1.alloc o).two
    replace lhvar1 := hvar1.lt
    clear hU0 hU1 hU2
    go_wp2
    have hU0 : Up w10 w10.drew := (Up.refl _).drew
    go_region_held3 (fun w' => Up w10 w' ∧ ∀ b o, b < w10.heap.size → w'.cell? ⟨b, o, none⟩ = w10.cell? ⟨b, o, none⟩) (first | exact upk hU2 | exact upk hU1 | exact upk hU0)
      (first | (go_at_call 36; refine (toTree_any _ _ _ _ _ _ _ _ _ (hx1.up hU0) (hy1.up hU0) (by omega) (by omega)).mono ?_; rintro e w11 ⟨gaz1, gbz1, rfl, hgz1, hggz1, kaz1, kbz1, hb11⟩; have hU1 := Up.then_ hU0 hb11) | (go_at_call 20; refine (eqTree_any _ _ _ _ _ _ _ _ _ _ _ _ _ _ _ _ _  ((kax1.up hU1).ri HX1.out) ((kbx1.up hU1).ri HY1.out) (kaz1.ri HX1.out) (kbz1.ri HY1.out) hn1 hm1).mono ?_; rintro e w12 ⟨rfl, hb12⟩; have hU2 := Up.then_ hU1 hb12))
    have hw12 : Below w.heap.size w w12 := Up.then_ hw10 hU2
    replace hx0 := hx0.up hU2
    replace hx1 := hx1.up hU2
    replace hy1 := hy1.up hU2
    replace hbox0 := hbox0.up hU2
    replace hbox1 := hbox1.up hU2
    replace kax0 := kax0.up hU2
    replace hvar0 := hvar0.up hU2
    replace kax1 := kax1.up hU2
    replace kbx1 := kbx1.up hU2
    replace hvar1 := hvar1.up hU2
    replace yhbox0 := hbox0.two
    replace zhbox0 := fun o => (hbox0.alloc o).two
    replace lhbox0 := hbox0.lt
    replace yhbox1 := hbox1.two
    replace zhbox1 := fun o => (hbox1.alloc o).two
    replace lhbox1 := hbox1.lt
    replace yhvar0 := hvar0.two
    replace zhvar0 := fun o => (hvar0.alloc o).two
    replace lhvar0 := hvar0.lt
    replace yhvar1 := hvar1.two
    replace zhvar1 := fun o => (hvar1.alloc o).two
    replace lhvar1 := hvar1.lt
    clear hU0 hU1 hU2
    go_wp2
    go_ret
    exact ⟨rfl, hw12⟩
  · by_cases ht0 : n0 ≤ 1048576
    · go_enter Try.func10, Try.ntmps10
      have hbox0 := (Blk.new w 24 #[.int .i64 N0, .slice A0 n0 c0]).alloc (.cells #[.slice A1 n1 c1, .slice B1 m1 d1] 49)
      have hbox1 := Blk.new_at (w := (w.alloc (.cells #[.int .i64 N0, .slice A0 n0 c0] 24))) (t := 49) (cs := #[.slice A1 n1 c1, .slice B1 m1 d1]) (g := w.heap.size + 1) (by simp)
      go_wp2_with fail
      refine (szGraph_ok _ _ _ _ _ _ (by omega) (by omega)).mono ?_
      rintro e w1 ⟨rfl, hb1⟩
      have hw1 : Below w.heap.size w w1 := Up.then_ (by go_grown) hb1
      replace hx0 := ((hx0.alloc (.cells #[.int .i64 N0, .slice A0 n0 c0] 24)).alloc (.cells #[.slice A1 n1 c1, .slice B1 m1 d1] 49)).up hb1
      replace hx1 := ((hx1.alloc (.cells #[.int .i64 N0, .slice A0 n0 c0] 24)).alloc (.cells #[.slice A1 n1 c1, .slice B1 m1 d1] 49)).up hb1
      replace hy1 := ((hy1.alloc (.cells #[.int .i64 N0, .slice A0 n0 c0] 24)).alloc (.cells #[.slice A1 n1 c1, .slice B1 m1 d1] 49)).up hb1
      replace hbox0 := hbox0.up hb1
      replace hbox1 := hbox1.up hb1
      have yhbox0 := hbox0.two
      have zhbox0 := fun o => (hbox0.alloc o).two
      have lhbox0 := hbox0.lt
      have yhbox1 := hbox1.two
      have zhbox1 := fun o => (hbox1.alloc o).two
      have lhbox1 := hbox1.lt
      go_wp2_with fail
      refine (szTree_big _ _ _ _ _ _ _ _ (by omega) (by omega) (by omega) hn1 hm1).mono ?_
      rintro e w2 ⟨rfl, hb2⟩
      have hw2 : Below w.heap.size w w2 := Up.then_ (by go_grown) hb2
      replace hx0 := hx0.up hb2
      replace hx1 := hx1.up hb2
      replace hy1 := hy1.up hb2
      replace hbox0 := hbox0.up hb2
      replace hbox1 := hbox1.up hb2
      replace yhbox0 := hbox0.two
      replace zhbox0 := fun o => (hbox0.alloc o).two
      replace lhbox0 := hbox0.lt
      replace yhbox1 := hbox1.two
      replace zhbox1 := fun o => (hbox1.alloc o).two
      replace lhbox1 := hbox1.lt
      go_wp2
      go_ret
      exact ⟨rfl, hw2⟩
    · go_enter Try.func10, Try.ntmps10
      have hbox0 := (Blk.new w 24 #[.int .i64 N0, .slice A0 n0 c0]).alloc (.cells #[.slice A1 n1 c1, .slice B1 m1 d1] 49)
      have hbox1 := Blk.new_at (w := (w.alloc (.cells #[.int .i64 N0, .slice A0 n0 c0] 24))) (t := 49) (cs := #[.slice A1 n1 c1, .slice B1 m1 d1]) (g := w.heap.size + 1) (by simp)
      go_wp2_with fail
      refine (szGraph_big _ _ _ _ _ _ (by omega) (by omega) (by omega) hn0).mono ?_
      rintro e w1 ⟨rfl, hb1⟩
      have hw1 : Below w.heap.size w w1 := Up.then_ (by go_grown) hb1
      replace hx0 := ((hx0.alloc (.cells #[.int .i64 N0, .slice A0 n0 c0] 24)).alloc (.cells #[.slice A1 n1 c1, .slice B1 m1 d1] 49)).up hb1
      replace hx1 := ((hx1.alloc (.cells #[.int .i64 N0, .slice A0 n0 c0] 24)).alloc (.cells #[.slice A1 n1 c1, .slice B1 m1 d1] 49)).up hb1
      replace hy1 := ((hy1.alloc (.cells #[.int .i64 N0, .slice A0 n0 c0] 24)).alloc (.cells #[.slice A1 n1 c1, .slice B1 m1 d1] 49)).up hb1
      replace hbox0 := hbox0.up hb1
      replace hbox1 := hbox1.up hb1
      have yhbox0 := hbox0.two
      have zhbox0 := fun o => (hbox0.alloc o).two
      have lhbox0 := hbox0.lt
      have yhbox1 := hbox1.two
      have zhbox1 := fun o => (hbox1.alloc o).two
      have lhbox1 := hbox1.lt
      go_wp2
      go_ret
      exact ⟨rfl, hw1⟩

open Go.ChangeShapes Go.WideShapes Go.ChangeAt Go.Joins Go.Deep in
set_option maxRecDepth 100000 in
theorem lawIsCliqueTree_lifted (os : Os) (started : os.Started) (H : Type) (enc : TypeId × Value → H) :
    ReturnsInHanded {} Try.checked os 10 .any (Rows.fnExactIsCliqueTreeSpec.pre6 enc Try.prog Try.f10 Rows.fnExactIsCliqueTreeRow.domain false) (Rows.fnExactIsCliqueTreeSpec.post enc Try.prog Try.f10 false true false false) := by
  refine returnsInHanded_of_change (C := Try.checked) Try.own_law started (by kernel_rfl) Try.func10
    (ChangeSpec.witness6 (enc := enc) (C := Try.checked) false ⟨#[], #[.agg #[.int .i64 0, .slice none 0 0], .agg #[.slice none 0 0, .slice none 0 0]], []⟩ 8 (by kernel_rfl) (by kernel_rfl) (by kernel_rfl) (by kernel_rfl)) ?_
  intro W base args ds gs before hval0 hW _ _
  have hval : ∀ (j : Nat) t v, Try.f10.params[j]? = some t → args[j]? = some v → Value.okWide Try.prog W .any base t v := hval0
  have hW' := hW
  obtain ⟨p, q, hA0, hV, rfl, _, _⟩ := hW
  have hA : DataW.TrodAll enc Try.prog W 0 (fun _ => true) true Try.f10.params.toList args.toList ds p := hA0
  rw [Try.params10] at hA hval
  obtain ⟨v0, vs0, d0, ds0, p0, q0, hargs, rfl, rfl, h0, r0⟩ := trodAll_cons hA
  obtain ⟨v1, vs1, d1, ds1, p1, q1, rfl, rfl, rfl, h1, r1⟩ := trodAll_cons r0
  obtain ⟨rfl, rfl, rfl⟩ := trodAll_nil r1
  obtain rfl : args = #[v0, v1] := by cases args; simp_all
  obtain ⟨rfl, rfl⟩ := trodVars_none hV
  have t0 := h0
  have lt0 : ∀ x ∈ p0, x.block < W.heap.size := by obtain ⟨m, hm⟩ := t0; exact DataW.trod_lt m _ _ _ hm
  obtain ⟨N0, A0, n0, c0, X0, rfl, hx0, hn0, fx0⟩ := open_nI Try.underlying24 (by kernel_rfl) (by kernel_rfl) rfl rfl Try.underlying22 Try.underlying3 (by kernel_rfl) (hval 0 24 v0 rfl rfl) h0
  have t1 := h1
  have lt1 : ∀ x ∈ p1, x.block < W.heap.size := by obtain ⟨m, hm⟩ := t1; exact DataW.trod_lt m _ _ _ hm
  obtain ⟨A1, n1, c1, X1, B1, m1, d1, Y1, rfl, hx1, hy1, hn1, hm1, fx1, fy1⟩ := open_II Try.underlying49 (by kernel_rfl) (by kernel_rfl) rfl rfl Try.underlying22 Try.underlying3 (by kernel_rfl) (hval 1 49 v1 rfl rfl) h1
  refine (lawIsCliqueTree_any N0 A0 n0 c0 X0 A1 n1 c1 X1 B1 m1 d1 Y1 W hx0 hn0 fx0 hx1 hy1 hn1 hm1 fx1 fy1).mono fun e W' ⟨he, bel⟩ => ?_
  subst he
  exact ⟨_, rfl, _, _, _, [], _, [], hW', trodAll_mk1 (shut_bool Try.underlying4 _), (trodAll_cons_mk (Below.trod Try.laidOut_law (by kernel_rfl) (of_decide_eq_true (by kernel_rfl)) t0 bel lt0) (trodAll_cons_mk (Below.trod Try.laidOut_law (by kernel_rfl) (of_decide_eq_true (by kernel_rfl)) t1 bel lt1) trodAll_mk0)), rfl, bel.frame _, fun h => by cases h⟩

theorem lawIsCliqueTree_holds : Rows.FnExactIsCliqueTreeSaid :=
  OpenClaim.holds_of_wide 10 Try.f10 rfl rfl rfl rfl rfl rfl rfl ⟨rfl, rfl, rfl, rfl, rfl⟩ rfl rfl rfl rfl rfl (by kernel_rfl) Try.func10 (by kernel_rfl)
    (of_decide_eq_true (by kernel_rfl)) (by unfold Func.isWrapper; first | (rw [if_pos (by decide +kernel)]; kernel_rfl) | (rw [if_neg (by decide +kernel)]; exact ⟨rfl, rfl⟩))
    (fun os started H enc _ => lawIsCliqueTree_lifted os started H enc)
#print axioms lawIsCliqueTree_holds
end Go.Proofs.Ytnaoomchekhcgaa
