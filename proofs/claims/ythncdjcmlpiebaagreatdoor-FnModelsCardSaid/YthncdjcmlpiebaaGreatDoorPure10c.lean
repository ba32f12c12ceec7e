/- Chapter 10, plain: orders of cliques. No program in sight. -/
import Derived.Test.YthncdjcmlpiebaaGreatDoorPurA
import Derived.Test.YthncdjcmlpiebaaGreatDoorBasA
namespace Go.Proofs.YthncdjcmlpiebaaGreatDoor
open Go.RowKit
/-- What lies in the first k sets. -/
def seenK (l : List Nat) : Nat → Nat
  | 0 => 0
  | k + 1 => seenK l k ||| nb l k
def lastK (l : List Nat) : Nat → Nat
  | 0 => 0
  | k + 1 => nb l k
def folAt (l : List Nat) (k : Nat) : Bool := dif (nb l k &&& seenK l k) (lastK l k) == 0
/-- The sets with a vertex follow one another. -/
def fol (l : List Nat) : Bool := (List.range l.length).all (folAt l)
theorem fol_true {l : List Nat} (h : ∀ k, k < l.length → folAt l k = true) : fol l = true := by
  rw [fol, List.all_eq_true]
  intro k hk
  exact h k (List.mem_range.1 hk)
theorem fol_false {l : List Nat} {k : Nat} (hk : k < l.length) (h : folAt l k = false) : fol l = false := by
  rw [fol, List.all_eq_false]
  exact ⟨k, List.mem_range.2 hk, by rw [h]; exact Bool.false_ne_true⟩
theorem fol_iff {l : List Nat} : fol l = true ↔ ∀ k, k < l.length → folAt l k = true := by
  rw [fol, List.all_eq_true]
  exact ⟨fun h k hk => h k (List.mem_range.2 hk), fun h k hk => h k (List.mem_range.1 hk)⟩
theorem nb_lt_all {l : List Nat} {b : Nat} (hb : 0 < b) (h : ∀ x ∈ l, x < b) (k : Nat) : nb l k < b := by
  rcases Nat.lt_or_ge k l.length with hk | hk
  · have e : nb l k = l[k] := by simp [nb, List.getD, List.getElem?_eq_getElem hk]
    rw [e]; exact h _ (List.getElem_mem hk)
  · have e : nb l k = 0 := by simp [nb, List.getD, List.getElem?_eq_none hk]
    rw [e]; exact hb
theorem seenK_lt {l : List Nat} {n : Nat} (h : ∀ x ∈ l, x < 2 ^ n) : ∀ k, seenK l k < 2 ^ n
  | 0 => Nat.two_pow_pos _
  | k + 1 => Nat.or_lt_two_pow (seenK_lt h k) (nb_lt_all (Nat.two_pow_pos _) h k)
theorem lastK_lt {l : List Nat} {n : Nat} (h : ∀ x ∈ l, x < 2 ^ n) : ∀ k, lastK l k < 2 ^ n
  | 0 => Nat.two_pow_pos _
  | k + 1 => nb_lt_all (Nat.two_pow_pos _) h k
/-- Vertex v begins anew at place k. -/
def begAt (l : List Nat) (v k : Nat) : Bool := (nb l k).testBit v && !(lastK l k).testBit v
/-- How often v begins in the first k places. -/
def bg (l : List Nat) (v : Nat) : Nat → Nat
  | 0 => 0
  | k + 1 => bg l v k + if begAt l v k then 1 else 0
theorem bg_yes {l : List Nat} {v k : Nat} (h : begAt l v k = true) : bg l v (k + 1) = bg l v k + 1 := by rw [bg, if_pos h]
theorem bg_no {l : List Nat} {v k : Nat} (h : begAt l v k = false) : bg l v (k + 1) = bg l v k := by rw [bg, h]; rfl
theorem bg_le (l : List Nat) (v : Nat) : ∀ k, bg l v k ≤ k
  | 0 => Nat.le_refl _
  | k + 1 => by have := bg_le l v k; rw [bg]; split <;> omega
theorem bg_mono (l : List Nat) (v : Nat) {j : Nat} : ∀ k, j ≤ k → bg l v j ≤ bg l v k
  | 0, h => by obtain rfl : j = 0 := by omega
               exact Nat.le_refl _
  | k + 1, h => by
    rcases Nat.lt_or_ge k j with h' | h'
    · obtain rfl : j = k + 1 := by omega
      exact Nat.le_refl _
    · have := bg_mono l v k h'
      rw [bg]
      omega
/-- v breaks the rule at place k. -/
def brk (l : List Nat) (v k : Nat) : Bool := begAt l v k && (seenK l k).testBit v
theorem last_seen (l : List Nat) (v : Nat) : ∀ k, (lastK l k).testBit v = true → (seenK l k).testBit v = true
  | 0, h => by simp [lastK] at h
  | k + 1, h => by rw [seenK, Nat.testBit_or]; rw [lastK] at h; rw [h, Bool.or_true]
theorem bg_seen (l : List Nat) (v : Nat) : ∀ k, (∀ j, j < k → brk l v j = false) → bg l v k = if (seenK l k).testBit v then 1 else 0
  | 0, _ => by simp [bg, seenK]
  | k + 1, h => by
    have h1 := bg_seen l v k fun j hj => h j (by omega)
    have h2 := h k (by omega)
    have h3 := last_seen l v k
    rw [bg, h1, seenK, Nat.testBit_or]
    unfold brk at h2
    unfold begAt at h2 ⊢
    revert h2 h3
    cases (seenK l k).testBit v <;> cases (nb l k).testBit v <;> cases (lastK l k).testBit v <;> simp
/-- The reference's test. -/
def consec (l : List Nat) : Bool := (List.range 7).all fun v => decide (bg l v l.length ≤ 1)
theorem consec_true {l : List Nat} (h : ∀ v, v < 7 → bg l v l.length ≤ 1) : consec l = true := by
  rw [consec, List.all_eq_true]
  intro v hv
  exact decide_eq_true (h v (List.mem_range.1 hv))
theorem consec_false {l : List Nat} {v : Nat} (hv : v < 7) (h : 1 < bg l v l.length) : consec l = false := by
  rw [consec, List.all_eq_false]
  exact ⟨v, List.mem_range.2 hv, by rw [decide_eq_true_eq]; omega⟩
theorem folAt_bit (l : List Nat) (v k : Nat) : (dif (nb l k &&& seenK l k) (lastK l k)).testBit v = brk l v k := by
  rw [testBit_dif, Nat.testBit_and, brk, begAt]
  cases (nb l k).testBit v <;> cases (seenK l k).testBit v <;> cases (lastK l k).testBit v <;> rfl
theorem folAt_brk {l : List Nat} {k : Nat} (h : ∀ v, brk l v k = false) : folAt l k = true := by
  rw [folAt, beq_iff_eq]
  apply Nat.eq_of_testBit_eq
  intro v
  rw [folAt_bit, h, Nat.zero_testBit]
theorem fol_consec {l : List Nat} (hl : ∀ x ∈ l, x < 128) : consec l = fol l := by
  rcases Bool.eq_false_or_eq_true (fol l) with e | e
  · rw [e]
    refine consec_true fun v _ => ?_
    have := bg_seen l v l.length fun j hj => by
      have := fol_iff.1 e j hj
      rw [folAt, beq_iff_eq] at this
      rw [← folAt_bit, this, Nat.zero_testBit]
    rw [this]
    split <;> omega
  · rw [e]
    have hex : ∃ v k, v < 7 ∧ k < l.length ∧ brk l v k = true := by
      refine Classical.byContradiction fun hno => ?_
      rw [← Bool.not_eq_true] at e
      refine e (fol_true fun k hk => folAt_brk fun v => ?_)
      rcases Bool.eq_false_or_eq_true (brk l v k) with e2 | e2
      · refine absurd ⟨v, k, ?_, hk, e2⟩ hno
        rw [brk, begAt, Bool.and_eq_true, Bool.and_eq_true] at e2
        exact bit_lt (k := 7) (nb_lt_all (by omega) hl k) e2.1.1
      · exact e2
    obtain ⟨v, k, hv, hk, hb⟩ := hex
    rcases fst_cases (brk l v) l.length with h | ⟨j, hj, hbj, hno⟩
    · rw [h k hk] at hb; cases hb
    · have h1 := bg_seen l v j hno
      rw [brk, Bool.and_eq_true] at hbj
      rw [hbj.2] at h1
      have h2 := bg_yes hbj.1
      have h3 := bg_mono l v (j := j + 1) l.length (by omega)
      refine consec_false hv ?_
      simp at h1
      omega
/-! The orders that a list can be led on to. -/
def mayC (l : List Nat) (s : Nat) : Bool := !decide (s ∈ l) && fol (l ++ [s])
/-- All that f sets more make of l. -/
def ords (L : List Nat) : Nat → List Nat → List (List Nat)
  | 0, l => [l]
  | f + 1, l => L.flatMap fun s => if mayC l s then ords L f (l ++ [s]) else []
def ordsAt (L : List Nat) (f : Nat) (l : List Nat) (k : Nat) : List (List Nat) := if mayC l (nb L k) then ords L f (l ++ [nb L k]) else []
/-- Those by the first k. -/
def ordsK (L : List Nat) (f : Nat) (l : List Nat) : Nat → List (List Nat)
  | 0 => []
  | k + 1 => ordsK L f l k ++ ordsAt L f l k
theorem ordsK_take (L : List Nat) (f : Nat) (l : List Nat) : ∀ k, k ≤ L.length → ordsK L f l k = (L.take k).flatMap fun s => if mayC l s then ords L f (l ++ [s]) else []
  | 0, _ => by simp [ordsK]
  | k + 1, h => by
    have e : nb L k = L[k] := by simp [nb, List.getD, List.getElem?_eq_getElem (show k < L.length by omega)]
    rw [ordsK, ordsK_take L f l k (by omega), List.take_succ_eq_append_getElem (by omega), List.flatMap_append, ordsAt, e]
    simp
theorem ords_all (L : List Nat) (f : Nat) (l : List Nat) : ordsK L f l L.length = ords L (f + 1) l := by
  rw [ordsK_take L f l _ (Nat.le_refl _), List.take_length]; rfl
theorem ordsAt_off {L : List Nat} {f k : Nat} {l : List Nat} (h : mayC l (nb L k) = false) : ordsAt L f l k = [] := by rw [ordsAt, h]; rfl
theorem ordsAt_on {L : List Nat} {f k : Nat} {l : List Nat} (h : mayC l (nb L k) = true) : ordsAt L f l k = ords L f (l ++ [nb L k]) := by rw [ordsAt, if_pos h]
theorem ordsK_off {L : List Nat} {f k : Nat} {l : List Nat} (h : mayC l (nb L k) = false) : ordsK L f l (k + 1) = ordsK L f l k := by rw [ordsK, ordsAt_off h, List.append_nil]
theorem ordsK_on {L : List Nat} {f k : Nat} {l : List Nat} (h : mayC l (nb L k) = true) : ordsK L f l (k + 1) = ordsK L f l k ++ ords L f (l ++ [nb L k]) := by rw [ordsK, ordsAt_on h]
/-- Those by the others come behind. -/
theorem ordsK_pre (L : List Nat) (f : Nat) (l : List Nat) {k : Nat} : ∀ m, k ≤ m → ∃ r, ordsK L f l m = ordsK L f l k ++ r
  | 0, h => by obtain rfl : k = 0 := by omega
               exact ⟨[], by simp⟩
  | m + 1, h => by
    rcases Nat.lt_or_ge m k with h' | h'
    · obtain rfl : k = m + 1 := by omega
      exact ⟨[], by simp⟩
    · obtain ⟨r, e⟩ := ordsK_pre L f l m h'
      exact ⟨r ++ ordsAt L f l m, by rw [ordsK, e, List.append_assoc]⟩
/-- What is found has its length and its sets. -/
theorem ords_spec {L : List Nat} {b : Nat} (hL : ∀ x ∈ L, x < b) : ∀ {f : Nat} {l r : List Nat}, r ∈ ords L f l → (∀ x ∈ l, x < b) → r.length = l.length + f ∧ ∀ x ∈ r, x < b := by
  intro f
  induction f with
  | zero =>
    intro l r h hl
    obtain rfl : r = l := by simpa [ords] using h
    exact ⟨rfl, hl⟩
  | succ f ih =>
    intro l r h hl
    rw [ords, List.mem_flatMap] at h
    obtain ⟨s, hs, h⟩ := h
    split at h
    · have := ih h (fun x hx => by
        rcases List.mem_append.1 hx with hx | hx
        · exact hl x hx
        · obtain rfl : x = s := by simpa using hx
          exact hL _ hs)
      refine ⟨?_, this.2⟩
      rw [this.1, List.length_append]
      simp only [List.length_singleton]
      omega
    · cases h
/-! A visitor that goes through a list until it has enough. -/
def visR {σ : Type} (step : σ → List Nat → σ × Bool) : σ → List (List Nat) → σ × Bool
  | s, [] => (s, true)
  | s, x :: t => if (step s x).2 then visR step (step s x).1 t else ((step s x).1, false)
theorem visR_nil {σ : Type} (step : σ → List Nat → σ × Bool) (s : σ) : visR step s [] = (s, true) := rfl
theorem visR_one {σ : Type} (step : σ → List Nat → σ × Bool) (s : σ) (x : List Nat) : visR step s [x] = step s x := by
  rw [visR]
  rcases h : step s x with ⟨s', b⟩
  cases b <;> simp [visR]
theorem visR_app {σ : Type} (step : σ → List Nat → σ × Bool) : ∀ (s : σ) (xs ys : List (List Nat)), visR step s (xs ++ ys) = if (visR step s xs).2 then visR step (visR step s xs).1 ys else visR step s xs
  | s, [], ys => by simp [visR]
  | s, x :: t, ys => by
    rw [List.cons_append, visR]
    by_cases h : (step s x).2 = true
    · rw [if_pos h, visR_app step _ t ys, visR, if_pos h]
    · rw [if_neg h, visR, if_neg h]; simp
theorem visR_on {σ : Type} {step : σ → List Nat → σ × Bool} {s s' : σ} {xs ys : List (List Nat)} (h : visR step s xs = (s', true)) : visR step s (xs ++ ys) = visR step s' ys := by rw [visR_app, h]; rfl
theorem visR_off {σ : Type} {step : σ → List Nat → σ × Bool} {s s' : σ} {xs ys : List (List Nat)} (h : visR step s xs = (s', false)) : visR step s (xs ++ ys) = (s', false) := by rw [visR_app, h]; rfl
/-- The first one. -/
def stepF (_ : Option (List Nat)) (l : List Nat) : Option (List Nat) × Bool := (some l, false)
theorem visR_first (xs : List (List Nat)) : (visR stepF none xs).1 = xs.head? := by
  cases xs <;> simp [visR, stepF]
/-- They are counted, up to 1000. -/
def stepN (z : Int) (_ : List Nat) : Int × Bool := (wrap64 (z + 1), decide (wrap64 (z + 1) < 1000))
theorem visR_count : ∀ (xs : List (List Nat)) (k : Nat), k < 1000 → (visR stepN (k : Int) xs).1 = (min (k + xs.length) 1000 : Nat)
  | [], k, h => by
    have e : min (k + ([] : List (List Nat)).length) 1000 = k := by rw [List.length_nil]; omega
    rw [e]; rfl
  | x :: t, k, h => by
    have hc : (k : Int) + 1 = ((k + 1 : Nat) : Int) := by omega
    have hw : wrap64 ((k : Int) + 1) = ((k + 1 : Nat) : Int) := (IntWalk.wrap64_in ((k : Int) + 1) ⟨by omega, by omega⟩).trans hc
    have e : stepN (k : Int) x = (((k + 1 : Nat) : Int), decide (((k + 1 : Nat) : Int) < 1000)) := by rw [stepN, hw]
    have hl : (x :: t).length = t.length + 1 := rfl
    rw [visR, e, hl]
    by_cases h2 : k + 1 < 1000
    · have hd : decide (((k + 1 : Nat) : Int) < 1000) = true := decide_eq_true (by omega)
      have e2 : min (k + (t.length + 1)) 1000 = min (k + 1 + t.length) 1000 := by omega
      rw [hd, e2]
      exact visR_count t (k + 1) h2
    · have hd : decide (((k + 1 : Nat) : Int) < 1000) = false := decide_eq_false (by omega)
      have e2 : min (k + (t.length + 1)) 1000 = k + 1 := by omega
      rw [hd, e2]
      rfl
/-- A count that ends at m. -/
theorem min_step {n k m : Nat} (h : n < m) : n + min k (m - n) = min (n + k) m := by omega
/-! There is a maximal clique. -/
theorem maxK_mem {Q : List Nat} {n s : Nat} : ∀ {k}, 1 ≤ s → s ≤ k → maxi Q n s = true → s ∈ maxK Q n k
  | 0, h1, h2, _ => by omega
  | k + 1, h1, h2, h3 => by
    rw [maxK, List.mem_append]
    rcases Nat.lt_or_ge k s with h | h
    · obtain rfl : s = k + 1 := by omega
      rw [if_pos h3]
      exact .inr (by simp)
    · exact .inl (maxK_mem h1 h h3)
theorem clqAt_iff {Q : List Nat} {s v : Nat} : clqAt Q s v = true ↔ ∀ i, (s.testBit i && !(nb Q v).testBit i) = decide (v = i) := by
  rw [clqAt, beq_iff_eq]
  constructor
  · intro e i
    have := congrArg (fun x => x.testBit i) e
    simpa only [testBit_dif, Nat.testBit_two_pow] using this
  · intro h
    apply Nat.eq_of_testBit_eq
    intro i
    rw [testBit_dif, Nat.testBit_two_pow, h i]
/-- A clique to which no greater one below 2^n belongs is maximal. -/
theorem top_maxi {n : Nat} {Q : List Nat} (h : GOk n Q) {s : Nat} (hs : s < 2 ^ n) (hc : clq Q s = true) (hno : ∀ t, s < t → t < 2 ^ n → clq Q t = false) : maxi Q n s = true := by
  rw [maxi_yes hc]
  have key : ∀ v, v ≤ n → standsK Q s v = true := by
    intro v
    induction v with
    | zero => intro _; rfl
    | succ v ih =>
      intro hv
      rw [standsK, ih (by omega), Bool.true_and, stands]
      rcases Bool.eq_false_or_eq_true (s.testBit v) with e | e
      · rw [e]; rfl
      · rw [e, Bool.false_or, bne_iff_ne]
        intro hz
        have hsub : ∀ i, s.testBit i = true → (nb Q v).testBit i = true := by
          intro i hi
          have := congrArg (fun x => x.testBit i) hz
          simp only [testBit_dif, Nat.zero_testBit, hi, Bool.true_and] at this
          simpa using this
        have hlt : s < s ||| 2 ^ v := by
          have hd : s &&& 2 ^ v = 0 := by
            apply Nat.eq_of_testBit_eq
            intro i
            rw [Nat.testBit_and, Nat.testBit_two_pow, Nat.zero_testBit]
            by_cases hi : v = i
            · subst hi; rw [e]; rfl
            · simp [hi]
          have := add_of_and hd
          have := Nat.two_pow_pos v
          omega
        have hlt2 : s ||| 2 ^ v < 2 ^ n := Nat.or_lt_two_pow hs (Nat.pow_lt_pow_right (by omega) (by omega))
        have hcl := hno _ hlt hlt2
        have : clq Q (s ||| 2 ^ v) = true := by
          rw [clq_iff]
          intro u hu hb
          rw [Nat.testBit_or, Nat.testBit_two_pow] at hb
          rw [clqAt_iff]
          intro i
          rw [Nat.testBit_or, Nat.testBit_two_pow]
          by_cases huv : v = u
          · subst huv
            by_cases hi : v = i
            · subst hi; simp [h.irr]
            · simp only [hi, decide_false, Bool.or_false]
              rcases Bool.eq_false_or_eq_true (s.testBit i) with e3 | e3
              · rw [e3, hsub i e3]; rfl
              · rw [e3]; rfl
          · have hsu : s.testBit u = true := by simpa [huv] using hb
            have h1 := clqAt_iff.1 (clq_iff.1 hc u hu hsu) i
            by_cases hi : v = i
            · subst hi
              have : (nb Q u).testBit v = true := by rw [h.sym]; exact hsub u hsu
              simp [this, Ne.symm huv]
            · simpa [hi] using h1
        rw [hcl] at this
        cases this
  exact key n (Nat.le_refl _)
theorem top_exists {P : Nat → Bool} : ∀ k, (∃ s, 1 ≤ s ∧ s ≤ k ∧ P s = true) → ∃ s, 1 ≤ s ∧ s ≤ k ∧ P s = true ∧ ∀ t, s < t → t ≤ k → P t = false
  | 0, ⟨s, h1, h2, _⟩ => by omega
  | k + 1, ⟨s, h1, h2, h3⟩ => by
    rcases Bool.eq_false_or_eq_true (P (k + 1)) with e | e
    · exact ⟨k + 1, by omega, Nat.le_refl _, e, fun t h4 h5 => by omega⟩
    · have hs : s ≤ k := by
        rcases Nat.lt_or_ge k s with h | h
        · obtain rfl : s = k + 1 := by omega
          rw [e] at h3; cases h3
        · exact h
      obtain ⟨t, t1, t2, t3, t4⟩ := top_exists k ⟨s, h1, hs, h3⟩
      refine ⟨t, t1, by omega, t3, fun u h4 h5 => ?_⟩
      rcases Nat.lt_or_ge k u with h | h
      · obtain rfl : u = k + 1 := by omega
        exact e
      · exact t4 u h4 h
theorem clq_single {n : Nat} {Q : List Nat} (h : GOk n Q) : clq Q 1 = true := by
  rw [clq_iff]
  intro v _ hb
  have hv : v = 0 := by
    have h1 : (1 : Nat) = 2 ^ 0 := rfl
    rw [h1, Nat.testBit_two_pow] at hb
    simpa using (of_decide_eq_true hb).symm
  subst hv
  rw [clqAt_iff]
  intro i
  have h1 : (1 : Nat) = 2 ^ 0 := rfl
  rw [h1, Nat.testBit_two_pow]
  by_cases hi : 0 = i
  · subst hi; simp [h.irr]
  · simp [hi]
theorem maxCliques_pos {n : Nat} {Q : List Nat} (h : GOk n Q) : 0 < (maxCliques Q n).length := by
  have hp := full_pos h.pos
  obtain ⟨s, h1, h2, h3, h4⟩ := top_exists (P := clq Q) (2 ^ n - 1) ⟨1, by omega, by omega, clq_single h⟩
  have hm : maxi Q n s = true := top_maxi h (by have := Nat.two_pow_pos n; omega) h3 fun t ht1 ht2 => h4 t ht1 (by omega)
  exact List.length_pos_of_mem (maxK_mem h1 h2 hm)
theorem maxCliques_lt {n : Nat} {Q : List Nat} {s : Nat} (h : s ∈ maxCliques Q n) : s < 2 ^ n := by
  have := (mem_maxK h).2.1
  have := Nat.two_pow_pos n
  omega
theorem maxK_nodup (Q : List Nat) (n : Nat) : ∀ k, (maxK Q n k).Nodup
  | 0 => by simp [maxK]
  | k + 1 => by
    rw [maxK, List.nodup_append]
    refine ⟨maxK_nodup Q n k, by split <;> simp, fun a ha b hb e => ?_⟩
    have := (mem_maxK ha).2.1
    split at hb
    · have : b = k + 1 := by simpa using hb
      omega
    · cases hb
theorem maxK_sorted (Q : List Nat) (n : Nat) : ∀ k, (maxK Q n k).Pairwise (· ≤ ·)
  | 0 => by simp [maxK]
  | k + 1 => by
    rw [maxK, List.pairwise_append]
    refine ⟨maxK_sorted Q n k, by split <;> simp, fun a ha b hb => ?_⟩
    have := (mem_maxK ha).2.1
    split at hb
    · have : b = k + 1 := by simpa using hb
      omega
    · cases hb
end Go.Proofs.YthncdjcmlpiebaaGreatDoor
