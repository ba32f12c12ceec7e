/- A law on a region that draws: its first n operations are still (they read, and call what leaves the world as it was), in whatever order; the others come behind them, in whatever order, and may change the world. -/
import Derived.Test.YtlcmfangecbdgaaBase
import Derived.StillTail
import Derived.StillTailTactics
import Derived.Deep.RegionWith
namespace Go.Proofs.Ytlcmfangecbdgaa
open Go.RowKit
section
variable {P : Program} {ops : Array Oper} {md : Region.Mode} {w : World}
/-- Each operation behind number n waits for one before it, from n on. -/
def restB (md : Region.Mode) (ops : Array Oper) (n : Nat) : Bool := (List.range ops.size).all fun t => decide (t ≤ n) || (List.range t).any fun s => decide (n ≤ s) && Region.waitsFor md ops t s
theorem ready_waits {listed : Array Bool} {t s : Nat} (hr : t ∈ Region.ready md ops listed) (h : Region.waitsFor md ops t s = true) : listed.getD s false = true := by
  obtain ⟨_, ot, hot, hall⟩ := mem_ready.1 hr
  obtain ⟨o', ho', e, he, hb, hon⟩ := Region.waitsFor_spec h
  obtain rfl : o' = ot := Option.some.inj (ho'.symm.trans hot)
  rw [← hon]
  exact hall e he hb
theorem rest_waits {n : Nat} (hs : Region.sinkB md ops n = true) (hc : restB md ops n = true) {listed : Array Bool} (inv : HeadInv md ops n listed) :
    ∀ (d i : Nat), n - i = d → i < n → listed.getD i true = false → ∀ t, n ≤ t → t ∉ Region.ready md ops listed := by
  intro d
  induction d using Nat.strongRecOn with
  | _ d ih =>
    intro i hd hi hun t ht hr
    have htlt : t < ops.size := by obtain ⟨_, ot, hot, _⟩ := mem_ready.1 hr; exact (Array.getElem?_eq_some_iff.1 hot).1
    rcases Nat.lt_or_ge n t with htn | htn
    · have h1 := List.all_eq_true.1 hc t (List.mem_range.2 htlt)
      rw [Bool.or_eq_true, decide_eq_true_eq] at h1
      rcases h1 with h1 | h1
      · omega
      · obtain ⟨s, hsr, h2⟩ := List.any_eq_true.1 h1
        have hst := List.mem_range.1 hsr
        rw [Bool.and_eq_true, decide_eq_true_eq] at h2
        have h3 := ready_waits hr h2.2
        rw [getD_both (inv.tail s h2.1 (by omega))] at h3
        cases h3
    · obtain rfl : t = n := by omega
      obtain ⟨j, hj, h2⟩ := List.any_eq_true.1 (List.all_eq_true.1 hs i (List.mem_range.2 hi))
      have hjt := List.mem_range.1 hj
      rw [Bool.and_eq_true, decide_eq_true_eq] at h2
      rcases Nat.lt_or_ge j t with hlt | hge
      · rcases hl : listed.getD j false with _ | _
        · exact ih (t - j) (by omega) j rfl hlt (getD_in (by rw [inv.size]; omega) hl) t (Nat.le_refl _) hr
        · obtain ⟨oj, hoj, e, he, hb, hon⟩ := Region.waitsFor_spec h2.2
          have h3 := inv.closed j oj hoj hl e he hb
          rw [hon, getD_both hun] at h3
          cases h3
      · obtain rfl : j = t := by omega
        have h3 := ready_waits hr h2.2
        rw [getD_both hun] at h3
        cases h3
theorem head_first {n i : Nat} {oi : Oper} {v : Value} {L : Array Bool → Act → Prop} (hi : ops[i]? = some oi) (hsel : ∀ (j : Nat) (o : Oper) cs b, ops[j]? = some o → o.op ≠ .select cs b)
    (hT : ∀ listed, HeadInv md ops n listed → ∀ i, i < n → listed.getD i true = false → ∀ t, n ≤ t → t ∉ Region.ready md ops listed) (hin : i < n) (hdone : ∀ listed a, L listed a → ∀ j ∈ Region.ready md ops listed, n ≤ j) :
    ∀ (f : Nat) (listed : Array Bool) (a : Act), HeadInv md ops n listed →
      (∀ j oj, ops[j]? = some oj → j ≠ i → listed.getD j true = false → (∀ e ∈ oj.after, Region.binds md e = true → e.on ≠ i) → oi.apart ops oj = true) →
      i ∈ Region.ready md ops listed → YieldsAt P ops w oi v a →
      wpAnyL P md ops w n L f (listed.setIfInBounds i true) (a.put oi.dst v) → wpAnyL P md ops w n L (f + 1) listed a := by
  intro f
  induction f with
  | zero =>
    intro listed a inv _ hr hy H
    have hun := (mem_ready.1 hr).1
    refine ⟨fun h => (by rw [h] at hr; cases hr), fun j hj => ?_⟩
    have hjn : j < n := Nat.lt_of_not_le fun h => hT listed inv i hin hun j h hj
    by_cases hji : j = i
    · subst hji; exact ⟨hjn, hy.stOp hi H⟩
    · have := hdone _ _ H j (ready_mono hj hji)
      omega
  | succ f ih =>
    intro listed a inv hfree hr hy H
    have hun := (mem_ready.1 hr).1
    refine ⟨fun h => (by rw [h] at hr; cases hr), fun j hj => ?_⟩
    have hjn : j < n := Nat.lt_of_not_le fun h => hT listed inv i hin hun j h hj
    refine ⟨hjn, ?_⟩
    by_cases hji : j = i
    · subst hji; exact hy.stOp hi H
    · have h1 := (H.2 j (ready_mono hj hji)).2
      obtain ⟨hjun, oj, hoj, hall⟩ := mem_ready.1 hj
      have hnot : ∀ e ∈ oj.after, Region.binds md e = true → e.on ≠ i := fun e he hb heq => by
        have h1 := hall e he hb
        rw [heq, getD_both hun] at h1
        cases h1
      have h2 := stOp_put hoj (hfree j oj hoj hji hjun hnot) (fun cs b => hsel i oi cs b hi) (fun cs b => hsel j oj cs b hoj) hy h1
      refine stOp_mono (fun a' h3 => ih (listed.setIfInBounds j true) a' (inv.set hj hjn) (fun k ok hk hki hun2 hno => ?_) (ready_mono hr (Ne.symm hji)) h3.1 ?_) h2
      · refine hfree k ok hk hki ?_ hno
        by_cases hjk : j = k
        · subst hjk; exact hjun
        · rw [getD_set_ne true hjk] at hun2; exact hun2
      · rw [Array.setIfInBounds_comm _ _ hji]
        exact h3.2
/-- The first operations may come up one after another; behind them the listed ones are L0, and only others may come up. -/
def headB (md : Region.Mode) (ops : Array Oper) (L0 : Array Bool) : Nat → Nat → Array Bool → Bool
  | 0, k, listed => decide (listed = L0) && (Region.ready md ops listed).all fun j => decide (k ≤ j)
  | f + 1, k, listed => (Region.ready md ops listed).contains k && Region.free md ops listed k && headB md ops L0 f (k + 1) (listed.setIfInBounds k true)
theorem head_lex {n : Nat} {L0 : Array Bool} {Lq : Act → Prop} (hsel : Region.noSelect ops = true) (hs : Region.sinkB md ops n = true) (hc : restB md ops n = true) (hd : ∀ j ∈ Region.ready md ops L0, n ≤ j) :
    ∀ (l : List Oper) (k : Nat) (listed : Array Bool) (a : Act), (∀ j, j < l.length → l[j]? = ops[k + j]?) → k + l.length = n → HeadInv md ops n listed →
    headB md ops L0 l.length k listed = true → wpStill P ops w Lq l a → wpAnyL P md ops w n (fun listed' a' => listed' = L0 ∧ Lq a') l.length listed a
  | [], k, listed, a, _, _, _, hB, h => by
    simp only [List.length_nil, headB, Bool.and_eq_true, decide_eq_true_eq] at hB
    exact ⟨hB.1, h⟩
  | o :: l, k, listed, a, hl, hk, inv, hB, h => by
    have h0 : ops[k]? = some o := by simpa using (hl 0 (by simp)).symm
    simp only [List.length_cons, headB, Bool.and_eq_true] at hB
    obtain ⟨⟨hr, hf⟩, hB'⟩ := hB
    have hkn : k < n := by simp only [List.length_cons] at hk; omega
    have hr' : k ∈ Region.ready md ops listed := by simpa using hr
    have hst : stOp P ops w k (wpStill P ops w Lq l) a := by unfold stOp; simp only [h0]; exact h
    obtain ⟨v, hy, hK⟩ := yieldsAt_of_stOp h0 hst
    exact head_first h0 (Region.noSelect_spec hsel) (fun listed inv i hi hun => rest_waits hs hc inv _ i rfl hi hun) hkn (fun listed' a' hL => by rw [hL.1]; exact hd) l.length listed a inv (Region.free_spec h0 hf) hr' hy
      (head_lex hsel hs hc hd l (k + 1) _ _ (fun j hj => by have := hl (j + 1) (by simp; omega); simpa [Nat.add_assoc, Nat.add_comm 1 j] using this) (by simp only [List.length_cons] at hk; omega) (inv.set hr' hkn) hB' hK)
def stillAnyB (md : Region.Mode) (ops : Array Oper) (n : Nat) (L0 : Array Bool) : Bool :=
  Region.noSelect ops && decide (n < ops.size) && Region.sinkB md ops n && restB md ops n && headB md ops L0 n 0 (Array.replicate ops.size false) && (Region.ready md ops L0).all fun j => decide (n ≤ j)
theorem wp_region_still_any {id : Nat} {Q : Exit → Act → World → Prop} {a : Act} {l : List Oper} (n : Nat) (L0 : Array Bool) (hm : P.follows .mixedOrders = true) (hB : stillAnyB .any l.toArray n L0 = true)
    (h : wpStill P l.toArray w.drew (fun a' => wpAny P .any l.toArray Q (l.length - n) L0 a' w.drew) (l.take n) a) : (Code.region id l.toArray true).wp P Q a w := by
  simp only [stillAnyB, Bool.and_eq_true, decide_eq_true_eq] at hB
  obtain ⟨⟨⟨⟨⟨hsel, hn⟩, hs⟩, hc⟩, hlex⟩, hd⟩ := hB
  have hn' : n < l.length := by simpa using hn
  have htl : (l.take n).length = n := by simp; omega
  have hd' : ∀ j ∈ Region.ready .any l.toArray L0, n ≤ j := fun j hj => by simpa using List.all_eq_true.1 hd j hj
  have inv0 : HeadInv .any l.toArray n (Array.replicate l.toArray.size false) :=
    ⟨by simp, fun j oj _ hl => (by rw [getD_replicate_false] at hl; cases hl), fun t _ ht => getD_in (by simpa using ht) (getD_replicate_false _ _)⟩
  have H := head_lex (P := P) (md := .any) (w := w.drew) hsel hs hc hd' (l.take n) 0 _ a (fun j hj => by
    have hj' : j < n := by rw [htl] at hj; exact hj
    simp [hj']) (by simpa using htl) inv0 (by rw [htl]; exact hlex) h
  refine wp_region_any hm ?_
  have := wpAny_of_head (Q' := Q) (g := l.length - n) (fun listed a' hL => by rw [hL.1]; exact hL.2) _ _ _ H
  rw [htl] at this
  have e : l.toArray.size = n + (l.length - n) := by simp; omega
  rw [e]
  rw [e] at this
  exact this
/-! A region by an invariant: each operation is walked once, whatever has come up before it. -/
/-- What an operation waits for stands before it. -/
def backB (md : Region.Mode) (ops : Array Oper) : Bool := (List.range ops.size).all fun i => match ops[i]? with
  | some o => o.after.all fun e => !Region.binds md e || decide (e.on < i)
  | none => true
/-- Whatever is listed, what it waits for is listed. -/
def ClosedL (md : Region.Mode) (ops : Array Oper) (listed : Array Bool) : Prop := ∀ j i, Region.waitsFor md ops j i = true → listed.getD j false = true → listed.getD i false = true
theorem getD_set_self {listed : Array Bool} {i : Nat} (h : listed.getD i true = false) : (listed.setIfInBounds i true).getD i false = true := by
  rcases Nat.lt_or_ge i listed.size with h' | h'
  · simp [h']
  · simp [Array.getElem?_eq_none h'] at h
theorem getD_set_cases {listed : Array Bool} {i j : Nat} (h : (listed.setIfInBounds i true).getD j false = true) : j = i ∨ listed.getD j false = true := by
  by_cases e : i = j
  · exact .inl e.symm
  · rw [getD_set_ne false e] at h; exact .inr h
theorem ready_waits' {listed : Array Bool} {t s : Nat} (hr : t ∈ Region.ready md ops listed) (h : Region.waitsFor md ops t s = true) : listed.getD s false = true := ready_waits hr h
theorem ClosedL.set {listed : Array Bool} {i : Nat} (h : ClosedL md ops listed) (hr : i ∈ Region.ready md ops listed) : ClosedL md ops (listed.setIfInBounds i true) := fun j k hw hj => by
  rcases getD_set_cases hj with rfl | hj
  · exact getD_set_true (ready_waits hr hw)
  · exact getD_set_true (h j k hw hj)
/-- How many are not listed. -/
def leftN (listed : Array Bool) : Nat → Nat
  | 0 => 0
  | k + 1 => leftN listed k + if listed.getD k true = false then 1 else 0
theorem leftN_le (listed : Array Bool) (i : Nat) : ∀ k, leftN (listed.setIfInBounds i true) k ≤ leftN listed k
  | 0 => Nat.le_refl _
  | k + 1 => by
    have := leftN_le listed i k
    rw [leftN, leftN]
    by_cases e : i = k
    · subst e
      have : (listed.setIfInBounds i true).getD i true = true := by
        rcases Nat.lt_or_ge i listed.size with h' | h' <;> simp [h']
      rw [this]
      simp
      omega
    · rw [getD_set_ne true e]; omega
theorem leftN_lt {listed : Array Bool} {i : Nat} (h : listed.getD i true = false) : ∀ k, i < k → leftN (listed.setIfInBounds i true) k < leftN listed k
  | 0, h0 => by omega
  | k + 1, hk => by
    rw [leftN, leftN]
    rcases Nat.lt_succ_iff_lt_or_eq.1 hk with hk | rfl
    · have := leftN_lt h k hk
      rw [getD_set_ne true (by omega)]
      omega
    · have := leftN_le listed i i
      have e : (listed.setIfInBounds i true).getD i true = true := by
        rcases Nat.lt_or_ge i listed.size with h' | h' <;> simp [h']
      rw [e, h]
      simp
      omega
theorem leftN_zero {listed : Array Bool} : ∀ k, leftN listed k = 0 → ∀ i, i < k → listed.getD i true = true
  | 0, _, i, hi => by omega
  | k + 1, h, i, hi => by
    rw [leftN] at h
    rcases Nat.lt_succ_iff_lt_or_eq.1 hi with hi | rfl
    · exact leftN_zero k (by omega) i hi
    · rcases hb : listed.getD i true with _ | _
      · rw [hb] at h; simp at h
      · rfl
theorem ready_none {listed : Array Bool} (hb : backB md ops = true) (h : Region.ready md ops listed = []) : ∀ i, i < ops.size → listed.getD i true = true := by
  intro i
  induction i using Nat.strongRecOn with
  | _ i ih =>
    intro hi
    rcases hc : listed.getD i true with _ | _
    · exfalso
      have : i ∈ Region.ready md ops listed := by
        refine mem_ready.2 ⟨hc, ops[i], Array.getElem?_eq_getElem hi, fun e he hbi => ?_⟩
        have h1 := List.all_eq_true.1 hb i (List.mem_range.2 hi)
        rw [Array.getElem?_eq_getElem hi] at h1
        have h2 := Array.all_eq_true'.1 h1 e he
        rw [hbi] at h2
        simp only [Bool.not_true, Bool.false_or, decide_eq_true_eq] at h2
        have h3 := ih e.on h2 (by omega)
        rcases Nat.lt_or_ge e.on listed.size with h' | h'
        · simp [h'] at h3 ⊢; exact h3
        · simp [Array.getElem?_eq_none (show listed.size ≤ i by omega)] at hc
      rw [h] at this
      cases this
    · rfl
theorem wpAny_inv {Q : Exit → Act → World → Prop} {Inv : Array Bool → Act → World → Prop} (hb : backB md ops = true)
    (hstep : ∀ listed a w i o, Inv listed a w → ClosedL md ops listed → ops[i]? = some o → listed.getD i true = false → (∀ j, Region.waitsFor md ops i j = true → listed.getD j false = true) →
      ∀ K' : Act → World → Prop, (∀ a w, Inv (listed.setIfInBounds i true) a w → K' a w) → if Region.wanted o (yielded ops a.tmps) = true then Oper.wp P o a w K' Q else K' (a.put o.dst undef) w)
    (hend : ∀ listed a w, Inv listed a w → (∀ i, i < ops.size → listed.getD i true = true) → Q .normal a w) :
    ∀ (fuel : Nat) (listed : Array Bool) (a : Act) (w : World), leftN listed ops.size ≤ fuel → ClosedL md ops listed → Inv listed a w → wpAny P md ops Q fuel listed a w
  | 0, listed, a, w, hf, hc, hi => by
    have hall := leftN_zero ops.size (by omega : leftN listed ops.size = 0)
    have hr : Region.ready md ops listed = [] := by
      rw [List.eq_nil_iff_forall_not_mem]
      intro j hj
      obtain ⟨hun, o, ho, _⟩ := mem_ready.1 hj
      rw [hall j (Array.getElem?_eq_some_iff.1 ho).1] at hun
      cases hun
    exact ⟨hr, hend _ _ _ hi hall⟩
  | fuel + 1, listed, a, w, hf, hc, hi => by
    refine ⟨fun hr => hend _ _ _ hi (ready_none hb hr), fun i hir => ?_⟩
    obtain ⟨hun, o, ho, _⟩ := mem_ready.1 hir
    have hlt := (Array.getElem?_eq_some_iff.1 ho).1
    refine wpOp_step ho fun K' hK => hstep listed a w i o hi hc ho hun (fun j hw => ready_waits hir hw) K' fun a' w' hi' => hK a' w' ?_
    exact wpAny_inv hb hstep hend fuel _ a' w' (by have := leftN_lt hun ops.size hlt; omega) (hc.set hir) hi'
theorem wp_region_inv {id : Nat} {Q : Exit → Act → World → Prop} {a : Act} {Inv : Array Bool → Act → World → Prop} (hm : P.follows .mixedOrders = true) (hb : backB .any ops = true)
    (h0 : Inv (Array.replicate ops.size false) a w.drew)
    (hstep : ∀ listed a w i o, Inv listed a w → ClosedL .any ops listed → ops[i]? = some o → listed.getD i true = false → (∀ j, Region.waitsFor .any ops i j = true → listed.getD j false = true) →
      ∀ K' : Act → World → Prop, (∀ a w, Inv (listed.setIfInBounds i true) a w → K' a w) → if Region.wanted o (yielded ops a.tmps) = true then Oper.wp P o a w K' Q else K' (a.put o.dst undef) w)
    (hend : ∀ listed a w, Inv listed a w → (∀ i, i < ops.size → listed.getD i true = true) → Q .normal a w) : (Code.region id ops true).wp P Q a w := by
  refine wp_region_any hm (wpAny_inv hb hstep hend ops.size _ a _ ?_ (fun j i _ hj => ?_) h0)
  · have : ∀ k, leftN (Array.replicate ops.size false) k ≤ k := fun k => by
      induction k with
      | zero => exact Nat.le_refl _
      | succ k ih => rw [leftN]; split <;> omega
    exact this _
  · rw [getD_replicate_false] at hj; cases hj
end
end Go.Proofs.Ytlcmfangecbdgaa
