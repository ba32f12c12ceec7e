/- Chapter 13, plain: chains of forced arcs. No program in sight. -/
import Derived.Test.YtlcmfangecbdgaaW13g
import Derived.Test.YtlcmfangecbdgaaPure13g
namespace Go.Proofs.Ytlcmfangecbdgaa
def rowAt (xss : List (List Int)) (k : Nat) : List Int := xss.getD k []
theorem rowAt_eq {ps : List RowP} {k : Nat} {p : RowP} (h : ps[k]? = some p) : rowAt (ps.map Prod.snd) k = p.2 := by
  simp [rowAt, List.getD_eq_getElem?_getD, List.getElem?_map, h]
/-- Row k is an arc, and the one before it forces it. -/
def fcAt (N : Int) (X : List Int) (xss : List (List Int)) (k : Nat) : Bool :=
  decide ((rowAt xss k).length = 2) && hasEdge N X ((rowAt xss k).getD 0 0) ((rowAt xss k).getD 1 0) &&
    (k == 0 || decide ((((rowAt xss k).getD 0 0).toNat, ((rowAt xss k).getD 1 0).toNat) ∈ nxt (X.map Int.toNat) N.toNat ((rowAt xss (k - 1)).getD 0 0).toNat ((rowAt xss (k - 1)).getD 1 0).toNat))
def fcEnds (xss : List (List Int)) : Bool := decide ((rowAt xss 0).getD 0 0 = (rowAt xss (xss.length - 1)).getD 1 0) && decide ((rowAt xss 0).getD 1 0 = (rowAt xss (xss.length - 1)).getD 0 0)
def isFC (N : Int) (X : List Int) (xss : List (List Int)) : Bool := decide (2 ≤ xss.length ∧ xss.length ≤ 60) && (List.range xss.length).all (fcAt N X xss) && fcEnds xss
theorem isFC_len {N : Int} {X : List Int} {xss : List (List Int)} (h : ¬ (2 ≤ xss.length ∧ xss.length ≤ 60)) : isFC N X xss = false := by rw [isFC, decide_eq_false h]; rfl
theorem isFC_at {N : Int} {X : List Int} {xss : List (List Int)} {k : Nat} (hk : k < xss.length) (h : fcAt N X xss k = false) : isFC N X xss = false := by
  have : (List.range xss.length).all (fcAt N X xss) = false := by
    rw [← Bool.not_eq_true, List.all_eq_true]
    intro e
    rw [e k (List.mem_range.2 hk)] at h
    cases h
  rw [isFC, this, Bool.and_false]; rfl
theorem isFC_all {N : Int} {X : List Int} {xss : List (List Int)} (h : 2 ≤ xss.length ∧ xss.length ≤ 60) (ha : ∀ k, k < xss.length → fcAt N X xss k = true) : isFC N X xss = fcEnds xss := by
  have : (List.range xss.length).all (fcAt N X xss) = true := List.all_eq_true.2 fun k hk => ha k (List.mem_range.1 hk)
  rw [isFC, decide_eq_true h, this]; rfl
theorem fcAt_long {N : Int} {X : List Int} {xss : List (List Int)} {k : Nat} (h : (rowAt xss k).length ≠ 2) : fcAt N X xss k = false := by rw [fcAt, decide_eq_false h]; rfl
theorem fcAt_edge {N : Int} {X : List Int} {xss : List (List Int)} {k : Nat} (h : hasEdge N X ((rowAt xss k).getD 0 0) ((rowAt xss k).getD 1 0) = false) : fcAt N X xss k = false := by rw [fcAt, h, Bool.and_false]; rfl
theorem fcAt_zero {N : Int} {X : List Int} {xss : List (List Int)} (h2 : (rowAt xss 0).length = 2) (h : hasEdge N X ((rowAt xss 0).getD 0 0) ((rowAt xss 0).getD 1 0) = true) : fcAt N X xss 0 = true := by rw [fcAt, decide_eq_true h2, h]; rfl
theorem fcAt_row {N : Int} {X : List Int} {xss : List (List Int)} {k : Nat} (h : fcAt N X xss k = true) : (rowAt xss k).length = 2 ∧ hasEdge N X ((rowAt xss k).getD 0 0) ((rowAt xss k).getD 1 0) = true := by
  simp only [fcAt, Bool.and_eq_true, decide_eq_true_eq] at h
  exact h.1
theorem fcAt_next {n k a b x y : Nat} {Q : List Nat} {xss : List (List Int)} (hk : k ≠ 0) (h : rowAt xss k = [(x : Int), (y : Int)]) (h' : rowAt xss (k - 1) = [(a : Int), (b : Int)]) (he : hasEdge n (ints Q) x y = true) :
    fcAt n (ints Q) xss k = decide ((x, y) ∈ nxt Q n a b) := by
  have e : (ints Q).map Int.toNat = Q := by simp [ints, List.map_map, Function.comp_def]
  have hz : (k == 0) = false := by simpa using hk
  rw [fcAt, h, h', hz, e]
  simp only [List.length_cons, List.length_nil, List.getD_cons_zero, List.getD_cons_succ, he, Int.toNat_natCast]
  simp
end Go.Proofs.Ytlcmfangecbdgaa
