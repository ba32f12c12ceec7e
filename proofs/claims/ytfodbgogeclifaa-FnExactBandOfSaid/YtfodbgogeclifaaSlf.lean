/- The library's IndexFunc and ContainsFunc on numbers, whatever the predicate; Reverse. -/
import Derived.Test.YtfodbgogeclifaaSlc
import Derived.Test.YtfodbgogeclifaaW4
namespace Go.Proofs.Ytfodbgogeclifaa
open Go.RowKit
theorem add_0_ (g k : Nat) : (⟨g, 0, none⟩ : Addr).add k = ⟨g, k, none⟩ := by unfold Addr.add; split <;> simp_all
theorem OwnI.frz_ {w : World} {base g n c : Nat} {xs : List Int} (h : OwnI w base (some ⟨g, 0, none⟩) n c xs) (k : Nat) : w.frozen? ⟨g, k, none⟩ = false := World.ownsRow.frozenAt h k
/-- A call of function f comes to its body. -/
def EntersF (f : FuncId) : Prop := ∀ (args : Array Value) (w : World), (callFunc f args).run Try.prog w = .ok (.enter f args) w
theorem entersF {f : FuncId} {fn : Func} {c : Code} (hf : Try.prog.funcs[f]? = some fn) (hname : (fn.name == "runtime.NumGoroutine") = false) (hb : fn.body = some c) : EntersF f := by
  intro args w
  have h1 : fn.name ≠ "runtime.NumGoroutine" := by simpa using hname
  simp [callFunc, hf, h1, hb, mark]
def idxF (p : Int → Bool) (xs : List Int) : Int := if xs.any p then (xs.findIdx p : Int) else -1
theorem idxF_at {p : Int → Bool} {xs : List Int} {k : Nat} (hk : k < xs.length) (h : p (xs.getD k 0) = true) (hno : ∀ j, j < k → p (xs.getD j 0) = false) : idxF p xs = k := by
  have h1 : p xs[k] = true := by simpa [List.getD, List.getElem?_eq_getElem hk] using h
  rw [idxF, if_pos (List.any_eq_true.2 ⟨_, List.getElem_mem hk, h1⟩)]
  have hi : xs.findIdx p < xs.length := List.findIdx_lt_length_of_exists ⟨_, List.getElem_mem hk, h1⟩
  have hg : p xs[xs.findIdx p] = true := List.findIdx_getElem (w := hi)
  rcases Nat.lt_trichotomy (xs.findIdx p) k with hlt | he | hlt
  · have := hno _ hlt
    simp [List.getD, List.getElem?_eq_getElem hi, hg] at this
  · rw [he]
  · have := List.not_of_lt_findIdx hlt
    rw [h1] at this
    cases this
theorem idxF_none {p : Int → Bool} {xs : List Int} (h : ∀ j, j < xs.length → p (xs.getD j 0) = false) : idxF p xs = -1 := by
  rw [idxF, if_neg]
  intro hm
  obtain ⟨x, hx, e⟩ := List.any_eq_true.1 hm
  obtain ⟨j, hj, rfl⟩ := List.mem_iff_getElem.1 hx
  have := h j hj
  simp [List.getD, List.getElem?_eq_getElem hj, e] at this
theorem idxF_nonneg (p : Int → Bool) (xs : List Int) : decide (0 ≤ idxF p xs) = xs.any p := by
  rw [idxF]
  split
  · rename_i h; rw [h]; exact decide_eq_true (by omega)
  · rename_i h; rw [Bool.eq_false_iff.2 h]; exact decide_eq_false (by omega)
set_option maxHeartbeats 1000000 in
set_option maxRecDepth 100000 in
theorem slIndexFunc_any (f : FuncId) (caps : Array Value) (p : Int → Bool) (A : Option Addr) (n c : Nat) (xs : List Int) (w : World) (hA : RI w A n xs) (hn : n ≤ 9223372036854775807) (he : EntersF f)
    (hp : ∀ j, j < n → ∀ w', Up w w' → Calls Try.prog f (#[.int .i64 (xs.getD j 0)] ++ caps) w' fun e w'' => e = .returned (.bool (p (xs.getD j 0))) ∧ Below w'.heap.size w' w'') :
    Calls Try.prog 61 #[.slice A n c, .func (.func f) #[] caps] w fun e w' => e = .returned (.int .i64 (idxF p xs)) ∧ Below w.heap.size w w' := by
  have HX := Lib.hid hA.1
  have HP := Lib.hid hp
  clear hp
  unfold EntersF at he
  go_enter Try.func61, Try.ntmps61
  go_wp2
  go_loopw [8] (fun i wr => ∃ k : Nat, k ≤ n ∧ i = .int .i64 k ∧ Up w wr ∧ Hid (∀ j, j < k → p (xs.getD j 0) = false)) (fun i _ => n - (intOf i).toNat)
  case atStart => exact ⟨0, Nat.zero_le _, rfl, Up.refl _, fun j h => absurd h (by omega)⟩
  case round =>
    obtain ⟨k, hk, rfl, hb, hno⟩ := hrel
    by_cases hlt : k < n
    · obtain ⟨a, rfl, _, hca⟩ := (hA.up hb).at_ hlt
      obtain ⟨z, hz⟩ : ∃ z, z = xs.getD k 0 := ⟨_, rfl⟩
      rw [← hz] at hca
      have Hz := Lib.hid hz
      clear hz
      go_wp2_with fail
      refine (show Calls Try.prog f (#[.int .i64 z] ++ caps) wr fun e w'' => e = .returned (.bool (p z)) ∧ Below wr.heap.size wr w'' by rw [Hz.out]; exact HP.out k hlt wr hb).mono ?_
      rintro e w2 ⟨rfl, hb2⟩
      have hw2 := Up.then_ hb hb2
      rcases Bool.eq_false_or_eq_true (p z) with e1 | e1
      · have HR := Lib.hid (idxF_at (p := p) (xs := xs) (k := k) (by rw [HX.out]; exact hlt) (by rw [← Hz.out]; exact e1) hno.out)
        rw [e1]
        clear e1
        go_wp2
        go_ret
        exact ⟨ret_int HR.out.symm, hw2⟩
      · have E1 := Lib.hid e1
        rw [e1]
        clear e1
        go_wp2
        go_roundw
        case rel => exact ⟨k + 1, by omega, by go_num, hw2, fun j hj => by
          rcases Nat.lt_succ_iff_lt_or_eq.1 hj with h' | rfl
          · exact hno.out j h'
          · rw [← Hz.out]; exact E1.out⟩
        case measure => simp [intOf]; omega
    · obtain rfl : k = n := by omega
      have HR := Lib.hid (idxF_none (p := p) (xs := xs) (by rw [HX.out]; exact hno.out))
      go_wp2
      go_ret
      exact ⟨ret_int HR.out.symm, hb⟩
theorem slContainsFunc_any (f : FuncId) (caps : Array Value) (p : Int → Bool) (A : Option Addr) (n c : Nat) (xs : List Int) (w : World) (hA : RI w A n xs) (hn : n ≤ 9223372036854775807) (he : EntersF f)
    (hp : ∀ j, j < n → ∀ w', Up w w' → Calls Try.prog f (#[.int .i64 (xs.getD j 0)] ++ caps) w' fun e w'' => e = .returned (.bool (p (xs.getD j 0))) ∧ Below w'.heap.size w' w'') :
    Calls Try.prog 59 #[.slice A n c, .func (.func f) #[] caps] w fun e w' => e = .returned (.bool (xs.any p)) ∧ Below w.heap.size w w' := by
  have HZ := Lib.hid (idxF_nonneg p xs)
  go_enter Try.func59, Try.ntmps59
  go_wp2_with fail
  refine (slIndexFunc_any f caps p A n c xs _ hA hn he hp).mono ?_
  rintro e w1 ⟨rfl, hb1⟩
  go_wp2
  go_ret
  exact ⟨ret_bool HZ.out, hb1⟩
def swK (xs : List Int) : Nat → List Int
  | 0 => xs
  | k + 1 => ((swK xs k).set k ((swK xs k).getD (xs.length - 1 - k) 0)).set (xs.length - 1 - k) ((swK xs k).getD k 0)
theorem swK_len (xs : List Int) : ∀ k, (swK xs k).length = xs.length
  | 0 => rfl
  | k + 1 => by rw [swK, List.length_set, List.length_set, swK_len xs k]
theorem getD_setI {xs : List Int} {i j : Nat} {v : Int} (h : i < xs.length) : (xs.set i v).getD j 0 = if j = i then v else xs.getD j 0 := by
  simp only [List.getD_eq_getElem?_getD, List.getElem?_set]
  by_cases e : i = j
  · subst e; simp [h]
  · rw [if_neg e, if_neg (fun k => e k.symm)]
theorem swK_at (xs : List Int) : ∀ k j, 2 * k ≤ xs.length → j < xs.length → (swK xs k).getD j 0 = if j < k ∨ xs.length - k ≤ j then xs.getD (xs.length - 1 - j) 0 else xs.getD j 0
  | 0, j, _, hj => by rw [swK, if_neg (by omega)]
  | k + 1, j, hk, hj => by
    have h1 := swK_at xs k (xs.length - 1 - k) (by omega) (by omega)
    have h2 := swK_at xs k k (by omega) (by omega)
    have h3 := swK_at xs k j (by omega) hj
    rw [if_neg (by omega)] at h1 h2
    rw [swK, getD_setI (by rw [List.length_set, swK_len]; omega), getD_setI (by rw [swK_len]; omega), h1, h2, h3]
    by_cases e1 : j = xs.length - 1 - k
    · rw [if_pos e1, if_pos (by omega)]
      have : xs.length - 1 - j = k := by omega
      rw [this]
    · rw [if_neg e1]
      by_cases e2 : j = k
      · rw [if_pos e2, if_pos (by omega), e2]
      · rw [if_neg e2]
        by_cases e3 : j < k ∨ xs.length - k ≤ j
        · rw [if_pos e3, if_pos (by omega)]
        · rw [if_neg e3, if_neg (by omega)]
theorem swK_rev {xs : List Int} {k : Nat} (h : 2 * k ≤ xs.length) (h2 : xs.length ≤ 2 * k + 1) : swK xs k = xs.reverse := by
  apply List.ext_getElem
  · rw [swK_len, List.length_reverse]
  · intro j h1 h3
    rw [swK_len] at h1
    have := swK_at xs k j h h1
    rw [List.getElem_reverse]
    have e1 : (swK xs k).getD j 0 = (swK xs k)[j] := by simp [List.getD, List.getElem?_eq_getElem (show j < (swK xs k).length by rw [swK_len]; exact h1)]
    rw [← e1, this]
    by_cases e : j < k ∨ xs.length - k ≤ j
    · rw [if_pos e]
      simp [List.getD, List.getElem?_eq_getElem (show xs.length - 1 - j < xs.length by omega)]
    · rw [if_neg e]
      have : xs.length - 1 - j = j := by omega
      simp only [this]
      simp [List.getD, List.getElem?_eq_getElem h1]
set_option maxRecDepth 100000 in
set_option maxHeartbeats 2000000 in
theorem slReverse_any (g n c base : Nat) (xs : List Int) (w : World) (hA : OwnI w base (some ⟨g, 0, none⟩) n c xs) (h0 : 0 < n) (hn : n ≤ 1048576) :
    Calls Try.prog 113 #[.slice (some ⟨g, 0, none⟩) n c] w fun e w' => e = .returned (.tuple #[]) ∧ OwnI w' base (some ⟨g, 0, none⟩) n c xs.reverse ∧ w.grownBy w' (some g) := by
  have HX := Lib.hid hA.len
  go_enter Try.func113, Try.ntmps113
  go_wp2_with fail
  go_loopw [2, 3] (fun i j wr => ∃ k : Nat, 2 * k ≤ n ∧ i = .int .i64 k ∧ j = .int .i64 ((n : Int) - 1 - k) ∧ OwnI wr base (some ⟨g, 0, none⟩) n c (swK xs k) ∧ w.grownBy wr (some g)) (fun i _ _ => n - (intOf i).toNat)
  case atStart => exact ⟨0, by omega, rfl, by simp, hA, World.grownBy.refl _ _⟩
  case round =>
    obtain ⟨k, hk, rfl, rfl, hown, hg⟩ := hrel
    by_cases hlt : (k : Int) < (n : Int) - 1 - k
    · obtain ⟨j, hj⟩ : ∃ j : Nat, (n : Int) - 1 - k = j := ⟨n - 1 - k, by omega⟩
      have hjn : j = n - 1 - k := by omega
      rw [hj] at hlt ⊢
      have Hj := Lib.hid hj
      have Hjn := Lib.hid hjn
      have hjlt : j < n := by omega
      have hkn : k < n := by omega
      have hkj : k < j := by omega
      clear hj hjn
      have HS := Lib.hid (show swK xs (k + 1) = ((swK xs k).set k ((swK xs k).getD (xs.length - 1 - k) 0)).set (xs.length - 1 - k) ((swK xs k).getD k 0) from rfl)
      rw [HX.out, ← Hjn.out] at HS
      obtain ⟨ys, hys⟩ : ∃ ys, ys = swK xs k := ⟨_, rfl⟩
      rw [← hys] at hown HS
      clear hys
      have hck : wr.cell? ⟨g, k, none⟩ = some (.int .i64 (ys.getD k 0)) := by
        obtain ⟨ad, e, _, hc⟩ := hown.ri.at_ hkn
        injection e with e
        subst e
        rwa [add_0_ g k] at hc
      have hcj : wr.cell? ⟨g, j, none⟩ = some (.int .i64 (ys.getD j 0)) := by
        obtain ⟨ad, e, _, hc⟩ := hown.ri.at_ hjlt
        injection e with e
        subst e
        rwa [add_0_ g j] at hc
      have hfk := hown.frz_ k
      have hfj := hown.frz_ j
      obtain ⟨y, hy⟩ : ∃ y, y = ys.getD k 0 := ⟨_, rfl⟩
      obtain ⟨z, hz⟩ : ∃ z, z = ys.getD j 0 := ⟨_, rfl⟩
      rw [← hy] at hck HS
      rw [← hz] at hcj HS
      clear hy hz
      have hp1 := hown.put k z
      have hp2 := hp1.1.put j y
      have hne : (⟨g, k, none⟩ : Addr) ≠ ⟨g, j, none⟩ := by simp only [ne_eq, Addr.mk.injEq, not_and]; omega
      have hgg := hp1.2.trans hp2.2
      rw [← HS.out] at hp2
      have HS2 := Lib.hid (show ((n : Int) - 1 - ((k : Int) + 1)) = (j : Int) - 1 by have := Hjn.out; omega)
      go_wp2_with fail
      go_region
      go_wp2_with fail
      go_roundw
      case rel =>
        exact ⟨k + 1, by have := Hjn.out; omega, by rfl, by have := HS2.out; rw [show ((k + 1 : Nat) : Int) = (k : Int) + 1 by omega, this], hp2.1, hg.trans ⟨hgg.os, hgg.tape, hgg.output, hgg.size, hgg.block⟩⟩
      case measure => simp [intOf]; omega
    · have hd := Lib.hid (swK_rev (xs := xs) (k := k) (by rw [HX.out]; exact hk) (by rw [HX.out]; omega))
      go_wp2
      go_end0
      exact ⟨rfl, by rw [← hd.out]; exact hown, hg⟩
end Go.Proofs.Ytfodbgogeclifaa
