/- The library's IndexFunc and ContainsFunc on numbers, whatever the predicate; Reverse. -/
import Derived.Test.YtlcmfangecbdgaaSlc
import Derived.Test.YtlcmfangecbdgaaW4
namespace Go.Proofs.Ytlcmfangecbdgaa
open Go.RowKit
theorem add_0_ (g k : Nat) : (⟨g, 0, none⟩ : Addr).add k = ⟨g, k, none⟩ := by unfold Addr.add; split <;> simp_all
theorem OwnI.frz_ {w : World} {base g n c : Nat} {xs : List Int} (h : OwnI w base (some ⟨g, 0, none⟩) n c xs) (k : Nat) : w.frozen? ⟨g, k, none⟩ = false := World.ownsRow.frozenAt h k
/-- A call of function f comes to its body. -/
def EntersF (f : FuncId) : Prop := ∀ (args : Array Value) (w : World), (callFunc f args).run Try.prog w = .ok (.enter f args) w
theorem entersF {f : FuncId} {fn : Func} {c : Code} (hf : Try.prog.funcs[f]? = some fn) (hname : (fn.name == "runtime.NumGoroutine") = false) (hb : fn.body = some c) : EntersF f := by
  intro args w
  have h1 : fn.name ≠ "runtime.NumGoroutine" := by simpa using hname
  simp [callFunc, hf, h1, hb, mark]
def idxF (p : Int → Bool) (xs : List Int) : Int := if xs.any p then (xs.findIdx p : Int) else -1
theorem idxF_at {p : Int → Bool} {xs : List Int} {k : Nat} (hk : k < xs.length) (h : p (xs.getD k 0) = true) (hno : ∀ j, j < k → p (xs.getD j 0) = false) : idxF p xs = k := by
  have h1 : p xs[k] = true := by simpa [List.getD, List.getElem?_eq_getElem hk] using h
  rw [idxF, if_pos (List.any_eq_true.2 ⟨_, List.getElem_mem hk, h1⟩)]
  have hi : xs.findIdx p < xs.length := List.findIdx_lt_length_of_exists ⟨_, List.getElem_mem hk, h1⟩
  have hg : p xs[xs.findIdx p] = true := List.findIdx_getElem (w := hi)
  rcases Nat.lt_trichotomy (xs.findIdx p) k with hlt | he | hlt
  · have := hno _ hlt
    simp [List.getD, List.getElem?_eq_getElem hi, hg] at this
  · rw [he]
  · have := List.not_of_lt_findIdx hlt
    rw [h1] at this
    cases this
theorem idxF_none {p : Int → Bool} {xs : List Int} (h : ∀ j, j < xs.length → p (xs.getD j 0) = false) : idxF p xs = -1 := by
  rw [idxF, if_neg]
  intro hm
  obtain ⟨x, hx, e⟩ := List.any_eq_true.1 hm
  obtain ⟨j, hj, rfl⟩ := List.mem_iff_getElem.1 hx
  have := h j hj
  simp [List.getD, List.getElem?_eq_getElem hj, e] at this
theorem idxF_nonneg (p : Int → Bool) (xs : List Int) : decide (0 ≤ idxF p xs) = xs.any p := by
  rw [idxF]
  split
  · rename_i h; rw [h]; exact decide_eq_true (by omega)
  · rename_i h; rw [Bool.eq_false_iff.2 h]; exact decide_eq_false (by omega)