/- From a law's contract to its row: arguments opened, the end closed. -/
import Derived.Test.YthncdjcmlpiebaaGreatDoorBasA
import Derived.ProofKit
import Derived.SizedLaws
import Derived.Carry
import Derived.Lib.SmallJoins
import Derived.Deep.Slices
import Derived.ChangeSame
namespace Go.Proofs.YthncdjcmlpiebaaGreatDoor
open Go.ChangeShapes Go.WideShapes Go.ChangeAt Go.RowKit Go.Joins Go.Deep

set_option maxRecDepth 100000 in
theorem Tryz.own_law : ownKnob Tryz.prog.godebug = none := by kernel_rfl
set_option maxRecDepth 100000 in
theorem Tryz.laidOut_law : laidOutB Tryz.prog = true := by kernel_rfl
set_option maxRecDepth 100000 in
theorem wf_fits {x : Int} (h : (Lit.int .i64 x).wf = true) : -9223372036854775808 ≤ x ∧ x ≤ 9223372036854775807 := by
  have h1 : IntKind.i64.min = -9223372036854775808 := rfl
  have h2 : IntKind.i64.max = 9223372036854775807 := rfl
  simp only [Lit.wf, Bool.and_eq_true, decide_eq_true_eq] at h
  omega

section
variable {H : Type} {enc : TypeId × Value → H} {P : Program}
variable {W : World} {base : Nat} {spare : Nat → Bool} {held : Bool}
set_option maxRecDepth 100000 in
theorem ints_of_cell {T : TypeId} {fuel : Nat} {v : Value} {y : DataW H × List MemPlace} (hT : P.underlying T = some (.slice 3)) (h3 : P.underlying 3 = some (.int .i64)) (hc : P.cellsOf 3 = 1)
    (h : DataW.trod enc P W base spare held fuel T [v] = some y) :
    ∃ A n c xs, v = .slice A n c ∧ RI W A n xs ∧ n ≤ 9223372036854775807 ∧ Fits xs := by
  rcases open_ints hT h3 hc h with ⟨hcs, _⟩ | ⟨a, len, cap, zs, hcs, _, hl, hm, hz, _, hcell, hwf⟩
  · simp at hcs
    exact ⟨none, 0, 0, [], hcs, RI.nil_, by omega, fun x hx => by cases hx⟩
  · simp at hcs
    have hlz : len ≤ zs.length := by split at hz <;> omega
    refine ⟨some a, len, cap, zs.take len, hcs, ⟨by simp [hlz], fun hn => ⟨a, rfl, fun j hj => ?_⟩⟩, ?_, ?_⟩
    · rw [hcell j (by omega)]
      simp [List.getD, hj]
    · unfold maxLen at hm; omega
    · intro x hx
      have := hwf x (List.mem_of_mem_take hx)
      have h1 : IntKind.i64.min = -9223372036854775808 := rfl
      have h2 : IntKind.i64.max = 9223372036854775807 := rfl
      simp only [Lit.wf, Bool.and_eq_true, decide_eq_true_eq] at this
      omega
set_option maxRecDepth 100000 in
/-- An argument that is a slice of numbers. -/
theorem open_I {r : Reach} {b0 : Nat} {T : TypeId} {v : Value} {d : DataW H} {p : List MemPlace} (hT : P.underlying T = some (.slice 3)) (h3 : P.underlying 3 = some (.int .i64)) (hc : P.cellsOf 3 = 1)
    (hv : Value.okWide P W r b0 T v) (h : DataW.Trod enc P W base spare held T v d p) : ∃ A n c xs, v = .slice A n c ∧ RI W A n xs ∧ n ≤ 9223372036854775807 ∧ Fits xs := by
  obtain ⟨a0, len, cap, rfl⟩ := okWide_slice hT hv
  obtain ⟨fuel, hf⟩ := h
  exact ints_of_cell hT h3 hc (by simpa [Value.cells] using hf)
set_option maxRecDepth 100000 in
/-- A struct of two slices of numbers. -/
theorem open_II {r : Reach} {b0 : Nat} {T S : TypeId} {f0 f1 : Field} {v : Value} {d : DataW H} {p : List MemPlace} (hS : P.underlying S = some (.struct #[f0, f1])) (hone : oneCellFields P #[f0, f1] = true) (hC : P.cellsOf S = 2) (e0 : f0.type = T) (e1 : f1.type = T)
    (hT : P.underlying T = some (.slice 3)) (h3 : P.underlying 3 = some (.int .i64)) (hc : P.cellsOf 3 = 1)
    (hv : Value.okWide P W r b0 S v) (h : DataW.Trod enc P W base spare held S v d p) :
    ∃ A n ca L B m cb R, v = .agg #[.slice A n ca, .slice B m cb] ∧ RI W A n L ∧ RI W B m R ∧ n ≤ 9223372036854775807 ∧ m ≤ 9223372036854775807 ∧ Fits L ∧ Fits R := by
  obtain ⟨c0, c1, y0, y1, k, rfl, rfl, rfl, hy0, hy1⟩ := open_agg2 hS hone hC hv h
  rw [e0] at hy0
  rw [e1] at hy1
  obtain ⟨A, n, ca, L, rfl, h1, h2, h3'⟩ := ints_of_cell hT h3 hc hy0
  obtain ⟨B, m, cb, R, rfl, k1, k2, k3⟩ := ints_of_cell hT h3 hc hy1
  exact ⟨A, n, ca, L, B, m, cb, R, rfl, h1, k1, h2, k2, h3', k3⟩
set_option maxRecDepth 100000 in
/-- A struct of a number and a slice of numbers. -/
theorem open_nI {r : Reach} {b0 : Nat} {T S : TypeId} {f0 f1 : Field} {v : Value} {d : DataW H} {p : List MemPlace} (hS : P.underlying S = some (.struct #[f0, f1])) (hone : oneCellFields P #[f0, f1] = true) (hC : P.cellsOf S = 2) (e0 : f0.type = 3) (e1 : f1.type = T)
    (hT : P.underlying T = some (.slice 3)) (h3 : P.underlying 3 = some (.int .i64)) (hc : P.cellsOf 3 = 1)
    (hv : Value.okWide P W r b0 S v) (h : DataW.Trod enc P W base spare held S v d p) :
    ∃ N A n ca L, v = .agg #[.int .i64 N, .slice A n ca] ∧ RI W A n L ∧ n ≤ 9223372036854775807 ∧ Fits L := by
  obtain ⟨c0, c1, y0, y1, k, rfl, rfl, rfl, hy0, hy1⟩ := open_agg2 hS hone hC hv h
  rw [e0] at hy0
  rw [e1] at hy1
  obtain ⟨N, hN, _, _⟩ := DataW.trod_int h3 hy0
  simp at hN
  subst hN
  obtain ⟨B, m, cb, R, rfl, k1, k2, k3⟩ := ints_of_cell hT h3 hc hy1
  exact ⟨N, B, m, cb, R, rfl, k1, k2, k3⟩
set_option maxRecDepth 100000 in
/-- A struct of one slice of numbers. -/
theorem open_1I {r : Reach} {b0 : Nat} {T S : TypeId} {f0 : Field} {v : Value} {d : DataW H} {p : List MemPlace} (hS : P.underlying S = some (.struct #[f0])) (hone : oneCellFields P #[f0] = true) (hC : P.cellsOf S = 1) (e0 : f0.type = T)
    (hT : P.underlying T = some (.slice 3)) (h3 : P.underlying 3 = some (.int .i64)) (hc : P.cellsOf 3 = 1)
    (hv : Value.okWide P W r b0 S v) (h : DataW.Trod enc P W base spare held S v d p) :
    ∃ A n ca L, v = .agg #[.slice A n ca] ∧ RI W A n L ∧ n ≤ 9223372036854775807 ∧ Fits L := by
  obtain ⟨cs, rfl, hsz⟩ := okWide_struct hS hv
  obtain ⟨l⟩ := cs
  match l, hsz.trans hC with
  | [c0], _ =>
    obtain ⟨fuel, hf⟩ := h
    obtain ⟨xs, n, _, _, _, hlen, hx⟩ := DataW.trod_struct hS hf
    match xs, hlen with
    | [y0], _ =>
      obtain ⟨o0, k0⟩ := hone_of hone 0 f0 rfl
      have h0 := hx 0 f0 rfl
      have hy0 : DataW.trod enc P W base spare held n f0.type [c0] = some y0 := by simpa [Value.cells, o0, k0] using h0
      rw [e0] at hy0
      obtain ⟨A, m, ca, L, rfl, h1, h2, h3'⟩ := ints_of_cell hT h3 hc hy0
      exact ⟨A, m, ca, L, rfl, h1, h2, h3'⟩
end
end Go.Proofs.YthncdjcmlpiebaaGreatDoor
