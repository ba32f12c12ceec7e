/- Chapter 13, plain: all that an arc forces, by breadth. No program in sight. -/
import Derived.Test.YtlcmfangecbdgaaPure13f
namespace Go.Proofs.Ytlcmfangecbdgaa
def prAt (l : List (Nat × Nat)) (k : Nat) : Nat × Nat := l.getD k (0, 0)
theorem prAt_eq {l : List (Nat × Nat)} {k : Nat} (h : k < l.length) : prAt l k = l[k] := by simp [prAt, List.getD, List.getElem?_eq_getElem h]
/-- What of the first k is not there is put behind. -/
def addK (out l : List (Nat × Nat)) : Nat → List (Nat × Nat)
  | 0 => out
  | k + 1 => if prAt l k ∈ addK out l k then addK out l k else addK out l k ++ [prAt l k]
theorem addK_in {out l : List (Nat × Nat)} {k : Nat} (h : prAt l k ∈ addK out l k) : addK out l (k + 1) = addK out l k := by rw [addK, if_pos h]
theorem addK_new {out l : List (Nat × Nat)} {k : Nat} (h : prAt l k ∉ addK out l k) : addK out l (k + 1) = addK out l k ++ [prAt l k] := by rw [addK, if_neg h]
def frcR (Q : List Nat) (n : Nat) : Nat → List (Nat × Nat) → Nat → List (Nat × Nat)
  | 0, out, _ => out
  | f + 1, out, i => if i < out.length then frcR Q n f (addK out (nxt Q n (prAt out i).1 (prAt out i).2) (nxt Q n (prAt out i).1 (prAt out i).2).length) (i + 1) else out
theorem frcR_end {Q : List Nat} {n f i : Nat} {out : List (Nat × Nat)} (h : ¬ i < out.length) : frcR Q n f out i = out := by
  cases f with
  | zero => rfl
  | succ f => rw [frcR, if_neg h]
theorem frcR_step {Q : List Nat} {n f i : Nat} {out : List (Nat × Nat)} (h : i < out.length) : frcR Q n (f + 1) out i = frcR Q n f (addK out (nxt Q n (prAt out i).1 (prAt out i).2) (nxt Q n (prAt out i).1 (prAt out i).2).length) (i + 1) := by rw [frcR, if_pos h]
/-- Different edges. -/
structure Good (n : Nat) (Q : List Nat) (out : List (Nat × Nat)) : Prop where
  nd : out.Nodup
  lt : ∀ p ∈ out, p.1 < n ∧ p.2 < n
theorem Good.len {n : Nat} {Q : List Nat} {out : List (Nat × Nat)} (h : Good n Q out) (h7 : n ≤ 7) : out.length ≤ 49 := by
  have hnd : (out.map fun p => p.1 * 7 + p.2).Nodup := by
    rw [List.nodup_iff_pairwise_ne, List.pairwise_map]
    refine List.Pairwise.imp_of_mem (fun {p q} hp hq hne he => hne ?_) (List.nodup_iff_pairwise_ne.1 h.nd)
    have h1 := h.lt p hp
    have h2 := h.lt q hq
    have e : p.1 * 7 + p.2 = q.1 * 7 + q.2 := he
    exact Prod.ext (by omega) (by omega)
  have hs : (out.map fun p => p.1 * 7 + p.2) ⊆ List.range 49 := by
    intro x hx
    obtain ⟨p, hp, rfl⟩ := List.mem_map.1 hx
    have := h.lt p hp
    exact List.mem_range.2 (by show p.1 * 7 + p.2 < 49; omega)
  have := hnd.length_le_of_subset hs
  simpa using this
theorem Good.add {n : Nat} {out l : List (Nat × Nat)} {Q' : List Nat} (h : Good n Q' out) (hl : ∀ p ∈ l, p.1 < n ∧ p.2 < n) : ∀ k, k ≤ l.length → Good n Q' (addK out l k)
  | 0, _ => h
  | k + 1, hk => by
    have ih := Good.add h hl k (by omega)
    by_cases hm : prAt l k ∈ addK out l k
    · rw [addK_in hm]; exact ih
    · rw [addK_new hm]
      refine ⟨?_, fun p hp => ?_⟩
      · rw [List.nodup_append]
        exact ⟨ih.nd, by simp, fun a ha b hb e => by
          obtain rfl : b = prAt l k := by simpa using hb
          exact hm (e ▸ ha)⟩
      · rcases List.mem_append.1 hp with hp | hp
        · exact ih.lt p hp
        · obtain rfl : p = prAt l k := by simpa using hp
          rw [prAt_eq (by omega)]
          exact hl _ (List.getElem_mem _)
theorem nxt_lt {Q : List Nat} {n a b : Nat} : ∀ p ∈ nxt Q n a b, p.1 < n ∧ p.2 < n := fun _ hp => ⟨(nxt_mem hp).1, (nxt_mem hp).2.1⟩
end Go.Proofs.Ytlcmfangecbdgaa
