/- The law FnExactModelOfOrder: for all arguments the program's ModelOfOrder returns what the reference's returns, and leaves its arguments alone. -/
import Derived.Test.YtfodbgogeclifaaRow
import Derived.Test.YtfodbgogeclifaaLaw4
import Derived.Test.YtfodbgogeclifaaConModelOfOrder
import Derived.Deep.RegionHeld3
namespace Go.Proofs.Ytfodbgogeclifaa
open Go.RowKit

set_option maxRecDepth 100000 in
set_option maxHeartbeats 8000000 in
theorem lawModelOfOrder_any (A0 : Option Addr) (n0 c0 : Nat) (X0 : List Int) (x1 : Int) (w : World) (hx0 : RI w A0 n0 X0) (hn0 : n0 ≤ 9223372036854775807) (fx0 : Fits X0) (fi1 : -9223372036854775808 ≤ x1 ∧ x1 ≤ 9223372036854775807) :
    Calls Try.prog 3 #[.slice A0 n0 c0, .int .i64 x1] w fun e w' => e = .returned (.bool true) ∧ Below w.heap.size w w' := by
  have HX0 := Lib.hid hx0.1
  by_cases hc0 : n0 ≤ 1048576
  rotate_left
  · go_enter Try.func3, Try.ntmps3
    replace hc0 := Nat.lt_of_not_le hc0
    go_wp2
    go_ret
    exact ⟨rfl, by go_grown⟩
  go_enter Try.func3, Try.ntmps3
  go_wp2_with fail
  refine (toIntS_any _ _ _ _ _ (hx0.up (by go_grown)) (by omega)).mono ?_
  rintro e w1 ⟨gas0, rfl, hgs0, kas0, hb1⟩
  have hU1 : Up w w1 := Up.then_ (by go_grown) hb1
  have hw1 : Below w.heap.size w w1 := hU1
  have hs1 := hU1.size
  replace hx0 := hx0.up hU1
  go_wp2_with fail
  refine (specModelOfOrder_law (kas0.ri HX0.out) (by omega) (Nat.le_refl _) (by omega) fx0 fi1).mono ?_
  rintro e w2 ⟨Aw, cw, Bw, dw, rfl, how, hpw, hnew, hb2⟩
  have hU2 : Up w1 w2 := Up.then_ (by go_grown) hb2
  have hw2 : Below w.heap.size w w2 := Up.then_ hw1 hU2
  have hs2 := hU2.size
  replace hx0 := hx0.up hU2
  replace kas0 := kas0.up hU2
  have hlen := resModelOfOrder_len X0 x1
  have hlen2 := resBModelOfOrder_len X0 x1
  have ohx0 := hx0
  have ohow := how
  have ohpw := hpw
  have hX : Up w2 w2 := Up.refl _
  have hresw := Blk.new w2 24 #[.slice Aw (resModelOfOrder X0 x1).length cw, .slice Bw (resBModelOfOrder X0 x1).length dw]
  go_wp2_with fail
  refine (toIntS_any _ _ _ _ _ (hx0.up (by go_grown)) (by omega)).mono ?_
  rintro e w3 ⟨gax0, rfl, hgx0, kax0, hb3⟩
  have hU3 : Up w2 w3 := Up.then_ (by go_grown) hb3
  replace hX := Up.then_ hX hU3
  have hw3 : Below w.heap.size w w3 := Up.then_ hw2 hU3
  have hs3 := hU3.size
  replace hx0 := hx0.up hU3
  replace how := how.up hU3
  replace hpw := hpw.up hU3
  replace hresw := hresw.up hb3
  have yhresw := hresw.two
  have zhresw := fun o => (hresw.alloc o).two
  have lhresw := hresw.lt
  have l0kax0 := kax0.lt
  try simp only [World.size_alloc] at hgx0
  go_wp2_with fail
  refine (implModelOfOrder_law (kax0.ri HX0.out) (by omega) (Nat.le_refl _) (by omega) fx0 fi1).mono ?_
  rintro e w4 ⟨Ag, cg, Bg, dg, rfl, hog, hpg, hneg, hb4⟩
  have hU4 : Up w3 w4 := Up.then_ (by go_grown) hb4
  replace hX := Up.then_ hX hU4
  have hw4 : Below w.heap.size w w4 := Up.then_ hw3 hU4
  have hs4 := hU4.size
  replace hx0 := hx0.up hU4
  replace how := how.up hU4
  replace hpw := hpw.up hU4
  replace hresw := hresw.up hU4
  replace kax0 := kax0.up hU4
  replace yhresw := hresw.two
  replace zhresw := fun o => (hresw.alloc o).two
  replace lhresw := hresw.lt
  replace hog := hog.more (base' := w3.heap.size) (by simp)
  have bhog := hog.block
  replace hpg := hpg.more (base' := w3.heap.size) (by simp)
  have bhpg := hpg.block
  have hresg := Blk.new w4 24 #[.slice Ag (resModelOfOrder X0 x1).length cg, .slice Bg (resBModelOfOrder X0 x1).length dg]
  go_wp2_with fail
  refine (eqIntervals_any _ _ _ _ _ _ _ _ _ _ _ _ _ _ _ _ _ (hog.ri.up (by go_grown)) (hpg.ri.up (by go_grown)) (how.ri.up (by go_grown)) (hpw.ri.up (by go_grown)) (by omega) (by omega)).mono ?_
  rintro e w5 ⟨rfl, hb5⟩
  have hU5 : Up w4 w5 := Up.then_ (by go_grown) hb5
  replace hX := Up.then_ hX hU5
  have hw5 : Below w.heap.size w w5 := Up.then_ hw4 hU5
  have hs5 := hU5.size
  replace hx0 := hx0.up hU5
  replace how := how.up hU5
  replace hpw := hpw.up hU5
  replace hog := hog.up hU5
  replace hpg := hpg.up hU5
  replace hresw := hresw.up hU5
  replace kax0 := kax0.up hU5
  replace hresg := hresg.up hb5
  replace yhresw := hresw.two
  replace zhresw := fun o => (hresw.alloc o).two
  replace lhresw := hresw.lt
  have yhresg := hresg.two
  have zhresg := fun o => (hresg.alloc o).two
  have lhresg := hresg.lt
  go_wp2_with fail
  refine (toIntS_any _ _ _ _ _ (hx0.up (by go_grown)) (by omega)).mono ?_
  rintro e w6 ⟨gaz0, rfl, hgz0, kaz0, hb6⟩
  have hU6 : Up w5 w6 := Up.then_ (by go_grown) hb6
  replace hX := Up.then_ hX hU6
  have hw6 : Below w.heap.size w w6 := Up.then_ hw5 hU6
  have hs6 := hU6.size
  replace hx0 := hx0.up hU6
  replace how := how.up hU6
  replace hpw := hpw.up hU6
  replace hog := hog.up hU6
  replace hpg := hpg.up hU6
  replace hresw := hresw.up hU6
  replace kax0 := kax0.up hU6
  replace hresg := hresg.up hU6
  replace yhresw := hresw.two
  replace zhresw := fun o => (hresw.alloc o).two
  replace lhresw := hresw.lt
  replace yhresg := hresg.two
  replace zhresg := fun o => (hresg.alloc o).two
  replace lhresg := hresg.lt
  go_wp2_with fail
  refine (eqIntS_any _ _ _ _ _ _ _ _ _ (kax0.ri HX0.out) (kaz0.ri HX0.out) hn0).mono ?_
  rintro e w7 ⟨rfl, hb7⟩
  have hU7 : Up w6 w7 := Up.then_ (by go_grown) hb7
  replace hX := Up.then_ hX hU7
  have hw7 : Below w.heap.size w w7 := Up.then_ hw6 hU7
  have hs7 := hU7.size
  replace hx0 := hx0.up hU7
  replace how := how.up hU7
  replace hpw := hpw.up hU7
  replace hog := hog.up hU7
  replace hpg := hpg.up hU7
  replace hresw := hresw.up hU7
  replace kax0 := kax0.up hU7
  replace hresg := hresg.up hU7
  replace kaz0 := kaz0.up hU7
  replace yhresw := hresw.two
  replace zhresw := fun o => (hresw.alloc o).two
  replace lhresw := hresw.lt
  replace yhresg := hresg.two
  replace zhresg := fun o => (hresg.alloc o).two
  replace lhresg := hresg.lt
  go_wp2_with fail
  refine (markIntS_any _ _ _ (1) gax0 _ _ (OwnI.of_blk kax0 HX0.out (by omega)) (by omega) (by omega)).mono ?_
  rintro e w8 ⟨rfl, _, hg8⟩
  replace hg8 : w7.grownBy w8 (some gax0) := hg8
  replace hX := hX.grown hg8 hX.size (fun k hk => by simp at hk; omega)
  have hw8 : Below w.heap.size w w8 := hw7.grown hg8 hw7.size (fun k hk => by have := hw2.size; simp at hk; omega)
  have hs8 := hg8.size
  replace hog := hog.kept hg8 (.inr (fun e => by have := bhog gax0 e; omega))
  replace hpg := hpg.kept hg8 (.inr (fun e => by have := bhpg gax0 e; omega))
  replace hresw := hresw.grown hg8 (fun e => by simp at e; omega)
  replace hresg := hresg.grown hg8 (fun e => by simp at e; omega)
  replace hx0 := ohx0.up hX
  replace how := ohow.up hX
  replace hpw := ohpw.up hX
  replace yhresw := hresw.two
  replace zhresw := fun o => (hresw.alloc o).two
  replace lhresw := hresw.lt
  replace yhresg := hresg.two
  replace zhresg := fun o => (hresg.alloc o).two
  replace lhresg := hresg.lt
  go_wp2_with fail
  refine (eqIntervals_any _ _ _ _ _ _ _ _ _ _ _ _ _ _ _ _ _ hog.ri hpg.ri how.ri hpw.ri (by omega) (by omega)).mono ?_
  rintro e w9 ⟨rfl, hb9⟩
  have hU9 : Up w8 w9 := Up.then_ (by go_grown) hb9
  replace hX := Up.then_ hX hU9
  have hw9 : Below w.heap.size w w9 := Up.then_ hw8 hU9
  have hs9 := hU9.size
  replace hx0 := hx0.up hU9
  replace how := how.up hU9
  replace hpw := hpw.up hU9
  replace hog := hog.up hU9
  replace hpg := hpg.up hU9
  replace hresw := hresw.up hU9
  replace hresg := hresg.up hU9
  replace yhresw := hresw.two
  replace zhresw := fun o => (hresw.alloc o).two
  replace lhresw := hresw.lt
  replace yhresg := hresg.two
  replace zhresg := fun o => (hresg.alloc o).two
  replace lhresg := hresg.lt
  go_wp2_with fail
  refine (markIntervals_any _ _ _ _ _ _ 1 _ _ _ _ _ hog hpg hneg (by omega) hlen hlen2).mono ?_
  rintro e w10 ⟨rfl, hom, hpm, wm10, hga10, hgb10⟩
  replace hX := hX.grown hga10 hX.size (fun k hk => by have := (bhog k hk).1; omega)
  have hwm10 : Below w.heap.size w wm10 := hw9.grown hga10 hw9.size (fun k hk => by have := hw2.size; have := (bhog k hk).1; omega)
  have hsm10 := hga10.size
  replace hresw := hresw.grown hga10 (fun e => by have := bhog _ e.symm; omega)
  replace hresg := hresg.grown hga10 (fun e => by have := bhog _ e.symm; omega)
  replace hX := hX.grown hgb10 hX.size (fun k hk => by have := (bhpg k hk).1; omega)
  have hw10 : Below w.heap.size w w10 := hwm10.grown hgb10 hwm10.size (fun k hk => by have := hw2.size; have := (bhpg k hk).1; omega)
  have hs10 := hgb10.size
  replace hresw := hresw.grown hgb10 (fun e => by have := bhpg _ e.symm; omega)
  replace hresg := hresg.grown hgb10 (fun e => by have := bhpg _ e.symm; omega)
  replace hog := hom
  clear hom
  replace hpg := hpm
  clear hpm
  replace hx0 := ohx0.up hX
  replace how := ohow.up hX
  replace hpw := ohpw.up hX
  replace yhresw := hresw.two
  replace zhresw := fun o => (hresw.alloc o).two
  replace lhresw := hresw.lt
  replace yhresg := hresg.two
  replace zhresg := fun o => (hresg.alloc o).two
  replace lhresg := hresg.lt
  go_wp2_with fail
  refine (heldIntervals_any _ _ _ _ _ _ 1 _ (hog.ri.up (by go_grown)) (hpg.ri.up (by go_grown)) (by omega) hlen hlen2).mono ?_
  rintro e w11 ⟨rfl, hb11⟩
  have hU11 : Up w10 w11 := Up.then_ (by go_grown) hb11
  replace hX := Up.then_ hX hU11
  have hw11 : Below w.heap.size w w11 := Up.then_ hw10 hU11
  have hs11 := hU11.size
  replace hx0 := hx0.up hU11
  replace how := how.up hU11
  replace hpw := hpw.up hU11
  replace hog := hog.up hU11
  replace hpg := hpg.up hU11
  replace hresw := hresw.up hU11
  replace hresg := hresg.up hU11
  replace yhresw := hresw.two
  replace zhresw := fun o => (hresw.alloc o).two
  replace lhresw := hresw.lt
  replace yhresg := hresg.two
  replace zhresg := fun o => (hresg.alloc o).two
  replace lhresg := hresg.lt
  go_wp2_with fail
  refine (toIntS_any _ _ _ _ _ (hx0.up (by go_grown)) (by omega)).mono ?_
  rintro e w12 ⟨gah0, rfl, hgh0, kah0, hb12⟩
  have hU12 : Up w11 w12 := Up.then_ (by go_grown) hb12
  replace hX := Up.then_ hX hU12
  have hw12 : Below w.heap.size w w12 := Up.then_ hw11 hU12
  have hs12 := hU12.size
  replace hx0 := hx0.up hU12
  replace how := how.up hU12
  replace hpw := hpw.up hU12
  replace hog := hog.up hU12
  replace hpg := hpg.up hU12
  replace hresw := hresw.up hU12
  replace hresg := hresg.up hU12
  replace yhresw := hresw.two
  replace zhresw := fun o => (hresw.alloc o).two
  replace lhresw := hresw.lt
  replace yhresg := hresg.two
  replace zhresg := fun o => (hresg.alloc o).two
  replace lhresg := hresg.lt
  go_wp2_with fail
  refine (implModelOfOrder_law (kah0.ri HX0.out) (by omega) (Nat.le_refl _) (by omega) fx0 fi1).mono ?_
  rintro e w13 ⟨Ah, ch, Bh, dh, rfl, hoh, hph, hneh, hb13⟩
  have hU13 : Up w12 w13 := Up.then_ (by go_grown) hb13
  replace hX := Up.then_ hX hU13
  have hw13 : Below w.heap.size w w13 := Up.then_ hw12 hU13
  have hs13 := hU13.size
  replace hx0 := hx0.up hU13
  replace how := how.up hU13
  replace hpw := hpw.up hU13
  replace hog := hog.up hU13
  replace hpg := hpg.up hU13
  replace hresw := hresw.up hU13
  replace hresg := hresg.up hU13
  replace kah0 := kah0.up hU13
  replace yhresw := hresw.two
  replace zhresw := fun o => (hresw.alloc o).two
  replace lhresw := hresw.lt
  replace yhresg := hresg.two
  replace zhresg := fun o => (hresg.alloc o).two
  replace lhresg := hresg.lt
  have hresh := Blk.new w13 24 #[.slice Ah (resModelOfOrder X0 x1).length ch, .slice Bh (resBModelOfOrder X0 x1).length dh]
  go_wp2_with fail
  refine (eqIntervals_any _ _ _ _ _ _ _ _ _ _ _ _ _ _ _ _ _ (hoh.ri.up (by go_grown)) (hph.ri.up (by go_grown)) (how.ri.up (by go_grown)) (hpw.ri.up (by go_grown)) (by omega) (by omega)).mono ?_
  rintro e w14 ⟨rfl, hb14⟩
  have hU14 : Up w13 w14 := Up.then_ (by go_grown) hb14
  replace hX := Up.then_ hX hU14
  have hw14 : Below w.heap.size w w14 := Up.then_ hw13 hU14
  have hs14 := hU14.size
  replace hx0 := hx0.up hU14
  replace how := how.up hU14
  replace hpw := hpw.up hU14
  replace hog := hog.up hU14
  replace hpg := hpg.up hU14
  replace hoh := hoh.up hU14
  replace hph := hph.up hU14
  replace hresw := hresw.up hU14
  replace hresg := hresg.up hU14
  replace hresh := hresh.up hb14
  replace yhresw := hresw.two
  replace zhresw := fun o => (hresw.alloc o).two
  replace lhresw := hresw.lt
  replace yhresg := hresg.two
  replace zhresg := fun o => (hresg.alloc o).two
  replace lhresg := hresg.lt
  have yhresh := hresh.two
  have zhresh := fun o => (hresh.alloc o).two
  have lhresh := hresh.lt
  go_wp2_with fail
  refine (heldIntervals_any _ _ _ _ _ _ 1 _ (hog.ri.up (by go_grown)) (hpg.ri.up (by go_grown)) (by omega) hlen hlen2).mono ?_
  rintro e w15 ⟨rfl, hb15⟩
  have hU15 : Up w14 w15 := Up.then_ (by go_grown) hb15
  replace hX := Up.then_ hX hU15
  have hw15 : Below w.heap.size w w15 := Up.then_ hw14 hU15
  have hs15 := hU15.size
  replace hx0 := hx0.up hU15
  replace how := how.up hU15
  replace hpw := hpw.up hU15
  replace hog := hog.up hU15
  replace hpg := hpg.up hU15
  replace hoh := hoh.up hU15
  replace hph := hph.up hU15
  replace hresw := hresw.up hU15
  replace hresg := hresg.up hU15
  replace hresh := hresh.up hU15
  replace yhresw := hresw.two
  replace zhresw := fun o => (hresw.alloc o).two
  replace lhresw := hresw.lt
  replace yhresg := hresg.two
  replace zhresg := fun o => (hresg.alloc o).two
  replace lhresg := hresg.lt
  replace yhresh := hresh.two
  replace zhresh := fun o => (hresh.alloc o).two
  replace lhresh := hresh.lt
  go_wp2
  go_ret
  exact ⟨rfl, hw15⟩


open Go.ChangeShapes Go.WideShapes Go.ChangeAt Go.Joins Go.Deep in
set_option maxRecDepth 100000 in
theorem lawModelOfOrder_lifted (os : Os) (started : os.Started) (H : Type) (enc : TypeId × Value → H) :
    ReturnsInHanded {} Try.checked os 3 .any (Rows.fnExactModelOfOrderSpec.pre6 enc Try.prog Try.f3 Rows.fnExactModelOfOrderRow.domain false) (Rows.fnExactModelOfOrderSpec.post enc Try.prog Try.f3 false true false false) := by
  refine returnsInHanded_of_change (C := Try.checked) Try.own_law started (by kernel_rfl) Try.func3
    (ChangeSpec.witness6 (enc := enc) (C := Try.checked) false ⟨#[], #[.slice none 0 0, .int .i64 0], []⟩ 8 (by kernel_rfl) (by kernel_rfl) (by kernel_rfl) (by kernel_rfl)) ?_
  intro W base args ds gs before hval0 hW _ _
  have hval : ∀ (j : Nat) t v, Try.f3.params[j]? = some t → args[j]? = some v → Value.okWide Try.prog W .any base t v := hval0
  have hW' := hW
  obtain ⟨p, q, hA0, hV, rfl, _, _⟩ := hW
  have hA : DataW.TrodAll enc Try.prog W 0 (fun _ => true) true Try.f3.params.toList args.toList ds p := hA0
  rw [Try.params3] at hA hval
  obtain ⟨v0, vs0, d0, ds0, p0, q0, hargs, rfl, rfl, h0, r0⟩ := trodAll_cons hA
  obtain ⟨v1, vs1, d1, ds1, p1, q1, rfl, rfl, rfl, h1, r1⟩ := trodAll_cons r0
  obtain ⟨rfl, rfl, rfl⟩ := trodAll_nil r1
  obtain rfl : args = #[v0, v1] := by cases args; simp_all
  obtain ⟨rfl, rfl⟩ := trodVars_none hV
  have t0 := h0
  have lt0 : ∀ x ∈ p0, x.block < W.heap.size := by obtain ⟨m, hm⟩ := t0; exact DataW.trod_lt m _ _ _ hm
  obtain ⟨A0, n0, c0, X0, rfl, hx0, hn0, fx0⟩ := open_I Try.underlying22 Try.underlying3 (by kernel_rfl) (hval 0 22 v0 rfl rfl) h0
  obtain ⟨x1, rfl, rfl, rfl, wx1⟩ := open_int Try.underlying3 (hval 1 3 v1 rfl rfl) h1
  have fi1 := wf_fits wx1
  refine (lawModelOfOrder_any A0 n0 c0 X0 x1 W hx0 hn0 fx0 fi1).mono fun e W' ⟨he, bel⟩ => ?_
  subst he
  exact ⟨_, rfl, _, _, _, [], _, [], hW', trodAll_mk1 (shut_bool Try.underlying4 _), (trodAll_cons_mk (Below.trod Try.laidOut_law (by kernel_rfl) (of_decide_eq_true (by kernel_rfl)) t0 bel lt0) (trodAll_cons_mk (shut_int Try.underlying3 wx1) trodAll_mk0)), rfl, bel.frame _, fun h => by cases h⟩

theorem lawModelOfOrder_holds : Rows.FnExactModelOfOrderSaid :=
  OpenClaim.holds_of_wide 3 Try.f3 rfl rfl rfl rfl rfl rfl rfl ⟨rfl, rfl, rfl, rfl, rfl⟩ rfl rfl rfl rfl rfl (by kernel_rfl) Try.func3 (by kernel_rfl)
    (of_decide_eq_true (by kernel_rfl)) (by unfold Func.isWrapper; first | (rw [if_pos (by decide +kernel)]; kernel_rfl) | (rw [if_neg (by decide +kernel)]; exact ⟨rfl, rfl⟩))
    (fun os started H enc _ => lawModelOfOrder_lifted os started H enc)
#print axioms lawModelOfOrder_holds
end Go.Proofs.Ytfodbgogeclifaa
