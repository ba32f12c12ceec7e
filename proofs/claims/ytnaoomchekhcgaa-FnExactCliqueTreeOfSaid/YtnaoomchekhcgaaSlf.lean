/- The library's IndexFunc and ContainsFunc on numbers, whatever the predicate; Reverse. -/
import Derived.Test.YtnaoomchekhcgaaSlc
import Derived.Test.YtnaoomchekhcgaaW4
namespace Go.Proofs.Ytnaoomchekhcgaa
open Go.RowKit
theorem add_0_ (g k : Nat) : (⟨g, 0, none⟩ : Addr).add k = ⟨g, k, none⟩ := by unfold Addr.add; split <;> simp_all
theorem OwnI.frz_ {w : World} {base g n c : Nat} {xs : List Int} (h : OwnI w base (some ⟨g, 0, none⟩) n c xs) (k : Nat) : w.frozen? ⟨g, k, none⟩ = false := World.ownsRow.frozenAt h k
/-- A call of function f comes to its body. -/
def EntersF (f : FuncId) : Prop := ∀ (args : Array Value) (w : World), (callFunc f args).run Try.prog w = .ok (.enter f args) w
theorem entersF {f : FuncId} {fn : Func} {c : Code} (hf : Try.prog.funcs[f]? = some fn) (hname : (fn.name == "runtime.NumGoroutine") = false) (hb : fn.body = some c) : EntersF f := by
  intro args w
  have h1 : fn.name ≠ "runtime.NumGoroutine" := by simpa using hname
  simp [callFunc, hf, h1, hb, mark]
def idxF (p : Int → Bool) (xs : List Int) : Int := if xs.any p then (xs.findIdx p : Int) else -1
theorem idxF_at {p : Int → Bool} {xs : List Int} {k : Nat} (hk : k < xs.length) (h : p (xs.getD k 0) = true) (hno : ∀ j, j < k → p (xs.getD j 0) = false) : idxF p xs = k := by
  have h1 : p xs[k] = true := by simpa [List.getD, List.getElem?_eq_getElem hk] using h
  rw [idxF, if_pos (List.any_eq_true.2 ⟨_, List.getElem_mem hk, h1⟩)]
  have hi : xs.findIdx p < xs.length := List.findIdx_lt_length_of_exists ⟨_, List.getElem_mem hk, h1⟩
  have hg : p xs[xs.findIdx p] = true := List.findIdx_getElem (w := hi)
  rcases Nat.lt_trichotomy (xs.findIdx p) k with hlt | he | hlt
  · have := hno _ hlt
    simp [List.getD, List.getElem?_eq_getElem hi, hg] at this
  · rw [he]
  · have := List.not_of_lt_findIdx hlt
    rw [h1] at this
    cases this
theorem idxF_none {p : Int → Bool} {xs : List Int} (h : ∀ j, j < xs.length → p (xs.getD j 0) = false) : idxF p xs = -1 := by
  rw [idxF, if_neg]
  intro hm
  obtain ⟨x, hx, e⟩ := List.any_eq_true.1 hm
  obtain ⟨j, hj, rfl⟩ := List.mem_iff_getElem.1 hx
  have := h j hj
  simp [List.getD, List.getElem?_eq_getElem hj, e] at this
theorem idxF_nonneg (p : Int → Bool) (xs : List Int) : decide (0 ≤ idxF p xs) = xs.any p := by
  rw [idxF]
  split
  · rename_i h; rw [h]; exact decide_eq_true (by omega)
  · rename_i h; rw [Bool.eq_false_iff.2 h]; exact decide_eq_false (by omega)
set_option maxHeartbeats 1000000 in
set_option maxRecDepth 100000 in
theorem slIndexFunc_any (f : FuncId) (caps : Array Value) (p : Int → Bool) (A : Option Addr) (n c : Nat) (xs : List Int) (w : World) (hA : RI w A n xs) (hn : n ≤ 9223372036854775807) (he : EntersF f)
    (hp : ∀ j, j < n → ∀ w', Up w w' → Calls Try.prog f (#[.int .i64 (xs.getD j 0)] ++ caps) w' fun e w'' => e = .returned (.bool (p (xs.getD j 0))) ∧ Below w'.heap.size w' w'') :
    Calls Try.prog 86 #[.slice A n c, .func (.func f) #[] caps] w fun e w' => e = .returned (.int .i64 (idxF p xs)) ∧ Below w.heap.size w w' := by
  have HX := Lib.hid hA.1
  have HP := Lib.hid hp
  clear hp
  unfold EntersF at he
  go_enter Try.func86, Try.ntmps86
  go_wp2
  go_loopw [8] (fun i wr => ∃ k : Nat, k ≤ n ∧ i = .int .i64 k ∧ Up w wr ∧ Hid (∀ j, j < k → p (xs.getD j 0) = false)) (fun i _ => n - (intOf i).toNat)
  case atStart => exact ⟨0, Nat.zero_le _, rfl, Up.refl _, fun j h => absurd h (by omega)⟩
  case round =>
    obtain ⟨k, hk, rfl, hb, hno⟩ := hrel
    by_cases hlt : k < n
    · obtain ⟨a, rfl, _, hca⟩ := (hA.up hb).at_ hlt
      obtain ⟨z, hz⟩ : ∃ z, z = xs.getD k 0 := ⟨_, rfl⟩
      rw [← hz] at hca
      have Hz := Lib.hid hz
      clear hz
      go_wp2_with fail
      refine (show Calls Try.prog f (#[.int .i64 z] ++ caps) wr fun e w'' => e = .returned (.bool (p z)) ∧ Below wr.heap.size wr w'' by rw [Hz.out]; exact HP.out k hlt wr hb).mono ?_
      rintro e w2 ⟨rfl, hb2⟩
      have hw2 := Up.then_ hb hb2
      rcases Bool.eq_false_or_eq_true (p z) with e1 | e1
      · have HR := Lib.hid (idxF_at (p := p) (xs := xs) (k := k) (by rw [HX.out]; exact hlt) (by rw [← Hz.out]; exact e1) hno.out)
        rw [e1]
        clear e1
        go_wp2
        go_ret
        exact ⟨ret_int HR.out.symm, hw2⟩
      · have E1 := Lib.hid e1
        rw [e1]
        clear e1
        go_wp2
        go_roundw
        case rel => exact ⟨k + 1, by omega, by go_num, hw2, fun j hj => by
          rcases Nat.lt_succ_iff_lt_or_eq.1 hj with h' | rfl
          · exact hno.out j h'
          · rw [← Hz.out]; exact E1.out⟩
        case measure => simp [intOf]; omega
    · obtain rfl : k = n := by omega
      have HR := Lib.hid (idxF_none (p := p) (xs := xs) (by rw [HX.out]; exact hno.out))
      go_wp2
      go_ret
      exact ⟨ret_int HR.out.symm, hb⟩
theorem slContainsFunc_any (f : FuncId) (caps : Array Value) (p : Int → Bool) (A : Option Addr) (n c : Nat) (xs : List Int) (w : World) (hA : RI w A n xs) (hn : n ≤ 9223372036854775807) (he : EntersF f)
    (hp : ∀ j, j < n → ∀ w', Up w w' → Calls Try.prog f (#[.int .i64 (xs.getD j 0)] ++ caps) w' fun e w'' => e = .returned (.bool (p (xs.getD j 0))) ∧ Below w'.heap.size w' w'') :
    Calls Try.prog 84 #[.slice A n c, .func (.func f) #[] caps] w fun e w' => e = .returned (.bool (xs.any p)) ∧ Below w.heap.size w w' := by
  have HZ := Lib.hid (idxF_nonneg p xs)
  go_enter Try.func84, Try.ntmps84
  go_wp2_with fail
  refine (slIndexFunc_any f caps p A n c xs _ hA hn he hp).mono ?_
  rintro e w1 ⟨rfl, hb1⟩
  go_wp2
  go_ret
  exact ⟨ret_bool HZ.out, hb1⟩