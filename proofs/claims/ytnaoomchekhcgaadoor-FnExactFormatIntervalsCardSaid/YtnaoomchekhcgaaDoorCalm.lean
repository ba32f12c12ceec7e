/- A region that draws its order, walked once in the text's order: where every operation, in every world that meets S, leaves one and the same value and a world that meets S (reads, arithmetic, calls that only make memory). No program in sight. -/
import Derived.OrdersHeld
import Derived.Deep.RegionHeld3
namespace Go.Proofs.YtnaoomchekhcgaaDoor

section
variable {P : Program} {ops : Array Oper} {Q : Exit → Act → World → Prop} {S : World → Prop}
/-- In state a, in every world that meets S, o leaves v and a world that meets S. -/
def Calm (P : Program) (ops : Array Oper) (S : World → Prop) (o : Oper) (v : Value) (a : Act) : Prop :=
  (Region.wanted o (yielded ops a.tmps) = true ∧ ∀ w, S w → ∃ n, (execOp a.eval o).run P w = .ok n w ∧ (n = .value v ∨ ∃ f args, n = .enter f args ∧ Calls P f args w fun e w' => e = .returned v ∧ S w')) ∨
  (Region.wanted o (yielded ops a.tmps) = false ∧ v = undef)
theorem Calm.val {o : Oper} {v : Value} {a : Act} (hw : Region.wanted o (yielded ops a.tmps) = true) (h : ∀ w, S w → (execOp a.eval o).run P w = .ok (.value v) w) : Calm P ops S o v a :=
  .inl ⟨hw, fun w hS => ⟨_, h w hS, .inl rfl⟩⟩
theorem Calm.call {o : Oper} {v : Value} {a : Act} {f : FuncId} {args : Array Value} (hw : Region.wanted o (yielded ops a.tmps) = true) (he : ∀ w, (execOp a.eval o).run P w = .ok (.enter f args) w) (h : ∀ w, S w → Calls P f args w fun e w' => e = .returned v ∧ S w') : Calm P ops S o v a :=
  .inl ⟨hw, fun w hS => ⟨_, he w, .inr ⟨f, args, rfl, h w hS⟩⟩⟩
theorem Calm.off {o : Oper} {a : Act} (hw : Region.wanted o (yielded ops a.tmps) = false) : Calm P ops S o undef a := .inr ⟨hw, rfl⟩
theorem Calm.wpOp {i : Nat} {o : Oper} {v : Value} {a : Act} (hi : ops[i]? = some o) (hy : Calm P ops S o v a) {K : Act → World → Prop} {w : World} (hS : S w) (h : ∀ w', S w' → K (a.put o.dst v) w') : wpOp P ops Q i K a w := by
  unfold Go.wpOp
  simp only [hi]
  rcases hy with ⟨hw, hv⟩ | ⟨hw, rfl⟩
  · simp only [hw, if_true]
    refine .inl ?_
    obtain ⟨n, hr, hn⟩ := hv w hS
    unfold Oper.wp
    rw [hr]
    rcases hn with rfl | ⟨f, args, rfl, hc⟩
    · exact h w hS
    · rw [Oper.upon_enter]
      refine hc.mono fun e w' he => ?_
      obtain ⟨rfl, hS'⟩ := he
      exact h w' hS'
  · simp only [hw, Bool.false_eq_true, if_false]
    exact h w hS
theorem Calm.of_same {o : Oper} {v : Value} {a a' : Act} (hy : Calm P ops S o v a) (he : execOp a'.eval o = execOp a.eval o) (hw : Region.wanted o (yielded ops a'.tmps) = Region.wanted o (yielded ops a.tmps)) : Calm P ops S o v a' := by
  unfold Calm at *
  rw [he, hw]
  exact hy
theorem Calm.put {o : Oper} {v u : Value} {a : Act} {dst : Option Tmp} (hs : ∀ cs b, o.op ≠ .select cs b) (hy : Calm P ops S o v a) (h : ∀ d, dst = some d → d ∉ o.looksAt ops) : Calm P ops S o v (a.put dst u) :=
  hy.of_same (execOp_put o hs a dst u h) (wanted_put o a dst u h)
theorem Calm.unput {o : Oper} {v u : Value} {a : Act} {dst : Option Tmp} (hs : ∀ cs b, o.op ≠ .select cs b) (hy : Calm P ops S o v (a.put dst u)) (h : ∀ d, dst = some d → d ∉ o.looksAt ops) : Calm P ops S o v a :=
  hy.of_same (execOp_put o hs a dst u h).symm (wanted_put o a dst u h).symm

/-- The operations from number i on, in the text's order. -/
def CalmSeq (P : Program) (ops : Array Oper) (S : World → Prop) : List Oper → Act → (Act → Prop) → Prop
  | [], a, K => K a
  | o :: rest, a, K => ∃ v, Calm P ops S o v a ∧ CalmSeq P ops S rest (a.put o.dst v) K
theorem CalmSeq.cons {o : Oper} {rest : List Oper} {a : Act} {K : Act → Prop} (v : Value) (h : Calm P ops S o v a) (k : CalmSeq P ops S rest (a.put o.dst v) K) : CalmSeq P ops S (o :: rest) a K := ⟨v, h, k⟩
/-- The values of the operations that are listed, laid into their temporaries. -/
def putL (listed : Nat → Bool) : List (Oper × Value) → Nat → Act → Act
  | [], _, a => a
  | (o, v) :: rest, k, a => putL listed rest (k + 1) (if listed k then a.put o.dst v else a)
theorem put_size (a : Act) (d : Option Tmp) (v : Value) : (a.put d v).tmps.size = a.tmps.size := by cases d <;> simp [Act.put]
theorem put_at_other {a : Act} {d : Option Tmp} {v : Value} {t : Tmp} (h : d ≠ some t) : (a.put d v).tmps[t]? = a.tmps[t]? := by
  cases d with
  | none => rfl
  | some e => simp only [Act.put]; exact Array.getElem?_setIfInBounds_ne (fun k => h (by rw [k]))
theorem put_at_own {a : Act} {v : Value} {t : Tmp} : (a.put (some t) v).tmps[t]? = if t < a.tmps.size then some v else none := by
  simp [Act.put, Array.getElem?_setIfInBounds_self]
theorem putL_none {listed : Nat → Bool} : ∀ (ps : List (Oper × Value)) (k : Nat) (a : Act), (∀ j, k ≤ j → listed j = false) → putL listed ps k a = a
  | [], _, _, _ => rfl
  | (o, v) :: ps, k, a, h => by
    rw [putL, h k (Nat.le_refl _)]
    exact putL_none ps (k + 1) a fun j hj => h j (by omega)
theorem putL_agree {l l' : Nat → Bool} {t : Tmp} : ∀ (ps : List (Oper × Value)) (k : Nat) (a a' : Act), a.tmps.size = a'.tmps.size → a.tmps[t]? = a'.tmps[t]? →
    (∀ i o v, ps[i]? = some (o, v) → o.dst = some t → l (k + i) = l' (k + i)) → (putL l ps k a).tmps[t]? = (putL l' ps k a').tmps[t]?
  | [], _, _, _, _, he, _ => he
  | (o, v) :: ps, k, a, a', hs, he, h => by
    rw [putL, putL]
    refine putL_agree ps (k + 1) _ _ ?_ ?_ fun i o' v' hi hd => by
      have := h (i + 1) o' v' hi hd
      rwa [show k + (i + 1) = k + 1 + i by omega] at this
    · split <;> split <;> simp [put_size, hs]
    · by_cases hd : o.dst = some t
      · have h0 := h 0 o v rfl hd
        rw [Nat.add_zero] at h0
        rw [h0, hd]
        split
        · rw [put_at_own, put_at_own, hs]
        · exact he
      · have e1 : (if l k = true then a.put o.dst v else a).tmps[t]? = a.tmps[t]? := by split <;> simp [put_at_other hd]
        have e2 : (if l' k = true then a'.put o.dst v else a').tmps[t]? = a'.tmps[t]? := by split <;> simp [put_at_other hd]
        rw [e1, e2, he]
/-- One more is listed. -/
theorem putL_add {l l' : Nat → Bool} : ∀ (ps : List (Oper × Value)) (k i : Nat) (a : Act) (o : Oper) (v : Value), ps[i]? = some (o, v) → l (k + i) = false → l' (k + i) = true → (∀ j, j ≠ k + i → l' j = l j) →
    (∀ j o' v', ps[j]? = some (o', v') → j ≠ i → ∀ d, o'.dst = some d → o.dst ≠ some d) → putL l' ps k a = (putL l ps k a).put o.dst v
  | [], _, _, _, _, _, hi, _, _, _, _ => by cases hi
  | (o0, v0) :: ps, k, 0, a, o, v, hi, h0, h1, he, hd => by
    simp only [List.getElem?_cons_zero, Option.some.injEq, Prod.mk.injEq] at hi
    obtain ⟨rfl, rfl⟩ := hi
    rw [Nat.add_zero] at h0 h1 he
    rw [putL, putL, h0, h1]
    simp only [if_true, Bool.false_eq_true, if_false]
    exact putL_out ps (k + 1) a o0 v0 (fun j hj => he j (by omega)) fun j o' v' hj d hd' => hd (j + 1) o' v' hj (by omega) d hd'
  | (o0, v0) :: ps, k, i + 1, a, o, v, hi, h0, h1, he, hd => by
    rw [putL, putL, he k (by omega)]
    exact putL_add ps (k + 1) i _ o v hi (by rwa [show k + 1 + i = k + (i + 1) by omega]) (by rwa [show k + 1 + i = k + (i + 1) by omega]) (fun j hj => he j (by omega)) fun j o' v' hj hji d hd' => hd (j + 1) o' v' hj (by omega) d hd'
where
  putL_out {l l' : Nat → Bool} : ∀ (ps : List (Oper × Value)) (k : Nat) (a : Act) (o : Oper) (v : Value), (∀ j, k ≤ j → l' j = l j) → (∀ (j : Nat) o' v', ps[j]? = some (o', v') → ∀ d, o'.dst = some d → o.dst ≠ some d) →
      putL l' ps k (a.put o.dst v) = (putL l ps k a).put o.dst v
    | [], _, _, _, _, _, _ => rfl
    | (o1, v1) :: ps, k, a, o, v, he, hd => by
      rw [putL, putL, he k (Nat.le_refl _)]
      have e : (if l k = true then (a.put o.dst v).put o1.dst v1 else a.put o.dst v) = (if l k = true then a.put o1.dst v1 else a).put o.dst v := by
        split
        · exact Act.put_comm a v v1 fun d h1 h2 => hd 0 o1 v1 rfl d h2 h1
        · rfl
      rw [e]
      exact putL_out ps (k + 1) _ o v (fun j hj => he j (by omega)) fun j o' v' hj => hd (j + 1) o' v' hj
theorem CalmSeq.vals {K : Act → Prop} : ∀ (os : List Oper) (k : Nat) (a : Act), CalmSeq P ops S os a K → ∃ ps : List (Oper × Value), ps.map Prod.fst = os ∧ K (putL (fun _ => true) ps k a) ∧
    ∀ (i : Nat) o v, ps[i]? = some (o, v) → Calm P ops S o v (putL (fun j => decide (j < k + i)) ps k a)
  | [], _, a, h => ⟨[], rfl, h, fun i o v hi => by cases hi⟩
  | o :: os, k, a, ⟨v, hc, hr⟩ => by
    obtain ⟨ps, h1, h2, h3⟩ := CalmSeq.vals os (k + 1) (a.put o.dst v) hr
    refine ⟨(o, v) :: ps, by simp [h1], by rw [putL]; exact h2, fun i o' v' hi => ?_⟩
    cases i with
    | zero =>
      simp only [List.getElem?_cons_zero, Option.some.injEq, Prod.mk.injEq] at hi
      obtain ⟨rfl, rfl⟩ := hi
      rw [putL_none _ _ _ fun j hj => by simp; omega]
      exact hc
    | succ i =>
      have := h3 i o' v' hi
      rw [putL]
      have e1 : decide (k < k + (i + 1)) = true := by simp
      rw [e1]
      have e2 : (fun j => decide (j < k + (i + 1))) = fun j => decide (j < k + 1 + i) := by funext j; congr 1; rw [eq_iff_iff]; omega
      rw [e2]
      exact this
theorem Calm.agree {o : Oper} {v : Value} {a a' : Act} (hs : ∀ cs b, o.op ≠ .select cs b) (hy : Calm P ops S o v a) (h : ∀ t ∈ o.looksAt ops, a.tmps[t]? = a'.tmps[t]?) : Calm P ops S o v a' := by
  refine hy.of_same (execOp_congr o hs fun x hx => ?_) ?_
  · cases x with
    | tmp t =>
      have := h t (List.mem_append_left _ (List.mem_filterMap.2 ⟨.tmp t, by simpa using hx, rfl⟩))
      simp only [Act.eval, Array.getD_eq_getD_getElem?, this]
    | const _ => rfl
    | global _ => rfl
    | func _ => rfl
  · unfold Region.wanted
    cases hg : o.guard with
    | none => rfl
    | some gw =>
      obtain ⟨g, want⟩ := gw
      have hy : yielded ops a'.tmps g = yielded ops a.tmps g := by
        unfold yielded
        cases ht : (ops[g]?).bind (·.dst) with
        | none => rfl
        | some t =>
          have := h t (by simp [Oper.looksAt, hg, ht])
          simp only [Option.bind_some, this]
      simp only [hy]
/-- No operation writes what another one writes, or what it looks at itself; what it looks at is written by one that it waits for, and stands earlier in the text; it waits for earlier ones alone. -/
def calmOk (md : Region.Mode) (ops : Array Oper) : Bool :=
  Region.noSelect ops && (List.range ops.size).all fun i => match ops[i]? with
    | none => true
    | some oi => (oi.after.all fun e => decide (e.on < i)) && (List.range ops.size).all fun j => match ops[j]? with
      | none => true
      | some oj => match oj.dst with
        | none => true
        | some d => (j == i || oi.dst != some d) && (!(oi.looksAt ops).contains d || (decide (j < i) && oi.after.any fun e => Region.binds md e && e.on == j))
theorem calmOk_spec {md : Region.Mode} (h : calmOk md ops = true) : (∀ (j : Nat) (o : Oper) cs b, ops[j]? = some o → o.op ≠ .select cs b) ∧ ∀ i oi, ops[i]? = some oi → (∀ e ∈ oi.after, e.on < i) ∧ ∀ j oj d, ops[j]? = some oj → oj.dst = some d → (j ≠ i → oi.dst ≠ some d) ∧ (d ∈ oi.looksAt ops → j < i ∧ ∃ e ∈ oi.after, Region.binds md e = true ∧ e.on = j) := by
  rw [calmOk, Bool.and_eq_true, List.all_eq_true] at h
  refine ⟨Region.noSelect_spec h.1, fun i oi hi => ?_⟩
  have h1 := h.2 i (List.mem_range.2 (Array.getElem?_eq_some_iff.1 hi).1)
  simp only [hi, Bool.and_eq_true, List.all_eq_true] at h1
  refine ⟨fun e he => ?_, fun j oj d hj hd => ?_⟩
  · have := Array.all_eq_true_iff_forall_mem.1 h1.1 e he
    simpa using this
  · have h2 := h1.2 j (List.mem_range.2 (Array.getElem?_eq_some_iff.1 hj).1)
    simp only [hj, hd, Bool.and_eq_true, Bool.or_eq_true, beq_iff_eq, bne_iff_ne, Bool.not_eq_true', decide_eq_true_eq] at h2
    refine ⟨fun hne => h2.1.resolve_left hne, fun hm => ?_⟩
    rcases h2.2 with h3 | h3
    · rw [List.contains_iff_mem.2 hm] at h3; cases h3
    · refine ⟨h3.1, ?_⟩
      obtain ⟨k, hk, h4⟩ := Array.any_eq_true.1 h3.2
      simp only [Bool.and_eq_true, beq_iff_eq] at h4
      exact ⟨_, Array.getElem_mem hk, h4.1, h4.2⟩
/-- How many are not listed yet. -/
def left (n : Nat) (listed : Array Bool) : Nat := ((List.range n).filter fun j => !listed.getD j true).length
theorem left_zero {n : Nat} {listed : Array Bool} (h : left n listed = 0) {j : Nat} (hj : j < n) : listed.getD j true = true := by
  have h1 := List.length_eq_zero_iff.1 h
  refine Classical.byContradiction fun hne => ?_
  have : j ∈ (List.range n).filter fun j => !listed.getD j true := List.mem_filter.2 ⟨List.mem_range.2 hj, by simpa using hne⟩
  rw [h1] at this
  cases this
theorem left_less {n i : Nat} {listed : Array Bool} (hi : i < n) (h : listed.getD i true = false) : left n (listed.setIfInBounds i true) < left n listed := by
  have hsz : i < listed.size := by
    rcases Nat.lt_or_ge i listed.size with h' | h'
    · exact h'
    · simp [Array.getElem?_eq_none h'] at h
  have hown : (listed.setIfInBounds i true).getD i true = true := by simp [hsz]
  have key : ∀ l : List Nat, i ∈ l → (l.filter fun j => !(listed.setIfInBounds i true).getD j true).length < (l.filter fun j => !listed.getD j true).length := by
    intro l
    have hle : ∀ l : List Nat, (l.filter fun j => !(listed.setIfInBounds i true).getD j true).length ≤ (l.filter fun j => !listed.getD j true).length := by
      intro l
      induction l with
      | nil => exact Nat.le_refl _
      | cons x l ih =>
        by_cases hx : x = i
        · subst hx
          rw [List.filter_cons, List.filter_cons, hown, h]
          simp only [Bool.not_true, Bool.false_eq_true, if_false, Bool.not_false, if_true, List.length_cons]
          omega
        · rw [List.filter_cons, List.filter_cons, getD_set_ne true (fun e => hx e.symm)]
          split
          · simp only [List.length_cons]; omega
          · exact ih
    induction l with
    | nil => intro hm; cases hm
    | cons x l ih =>
      intro hm
      by_cases hx : x = i
      · subst hx
        rw [List.filter_cons, List.filter_cons, hown, h]
        simp only [Bool.not_true, Bool.false_eq_true, if_false, Bool.not_false, if_true, List.length_cons]
        have := hle l
        omega
      · have hm' : i ∈ l := (List.mem_cons.1 hm).resolve_left fun e => hx e.symm
        rw [List.filter_cons, List.filter_cons, getD_set_ne true (fun e => hx e.symm)]
        split
        · simp only [List.length_cons]; have := ih hm'; omega
        · exact ih hm'
  exact key _ (List.mem_range.2 hi)
theorem calm_any {md : Region.Mode} (hok : calmOk md ops = true) {ps : List (Oper × Value)} (hps : ps.map Prod.fst = ops.toList) {a0 : Act}
    (hcalm : ∀ (i : Nat) o v, ps[i]? = some (o, v) → Calm P ops S o v (putL (fun j => decide (j < 0 + i)) ps 0 a0)) (hQ : ∀ w, S w → Q .normal (putL (fun _ => true) ps 0 a0) w) :
    ∀ (fuel : Nat) (listed : Array Bool) (w : World), listed.size = ops.size → left ops.size listed ≤ fuel → S w → wpAny P md ops Q fuel listed (putL (fun j => listed.getD j true) ps 0 a0) w := by
  obtain ⟨hsel, hat⟩ := calmOk_spec hok
  have hop : ∀ (i : Nat) o v, ps[i]? = some (o, v) → ops[i]? = some o := fun i o v h => by
    have : (ps.map Prod.fst)[i]? = some o := by rw [List.getElem?_map, h]; rfl
    rw [hps] at this
    simpa using this
  have hpo : ∀ (i : Nat) o, ops[i]? = some o → ∃ v, ps[i]? = some (o, v) := fun i o h => by
    have : (ps.map Prod.fst)[i]? = some o := by rw [hps]; simpa using h
    rw [List.getElem?_map] at this
    cases hp : ps[i]? with
    | none => rw [hp] at this; cases this
    | some p =>
      rw [hp] at this
      obtain ⟨o', v⟩ := p
      simp only [Option.map_some, Option.some.injEq] at this
      subst this
      exact ⟨v, rfl⟩
  have hlen : ps.length = ops.size := by have := congrArg List.length hps; simpa using this
  -- nothing may come up: all are listed
  have hall : ∀ (listed : Array Bool), listed.size = ops.size → Region.ready md ops listed = [] → ∀ j, j < ops.size → listed.getD j true = true := by
    intro listed hsz hr j
    induction j using Nat.strongRecOn with
    | _ j ih =>
      intro hj
      refine Classical.byContradiction fun hne => ?_
      have hne' : listed.getD j true = false := by simpa using hne
      have hoj : ops[j]? = some ops[j] := Array.getElem?_eq_getElem hj
      have : j ∈ Region.ready md ops listed := mem_ready.2 ⟨hne', _, hoj, fun e he _ => by
        have hlt := (hat j _ hoj).1 e he
        have := ih e.on hlt (by omega)
        have hes : e.on < listed.size := by omega
        simpa [hes] using this⟩
      rw [hr] at this
      cases this
  have hfin : ∀ (listed : Array Bool), (∀ j, j < ops.size → listed.getD j true = true) → putL (fun j => listed.getD j true) ps 0 a0 = putL (fun _ => true) ps 0 a0 := by
    have key : ∀ (qs : List (Oper × Value)) (k : Nat) (a : Act) (f : Nat → Bool), (∀ j, k ≤ j → j < k + qs.length → f j = true) → putL f qs k a = putL (fun _ => true) qs k a := by
      intro qs
      induction qs with
      | nil => intro k a f _; rfl
      | cons q qs ih =>
        intro k a f h
        obtain ⟨o, v⟩ := q
        rw [putL, putL, h k (Nat.le_refl _) (by simp)]
        exact ih (k + 1) _ f fun j h1 h2 => h j (by omega) (by simp at h2 ⊢; omega)
    exact fun listed h => key ps 0 a0 _ fun j _ h2 => h j (by omega)
  intro fuel
  induction fuel with
  | zero =>
    intro listed w hsz hle hS
    have hl : ∀ j, j < ops.size → listed.getD j true = true := fun j hj => left_zero (by omega) hj
    refine ⟨?_, by rw [hfin listed hl]; exact hQ w hS⟩
    rw [List.eq_nil_iff_forall_not_mem]
    intro j hj
    obtain ⟨h0, o, ho, _⟩ := mem_ready.1 hj
    rw [hl j (Array.getElem?_eq_some_iff.1 ho).1] at h0
    cases h0
  | succ fuel ih =>
    intro listed w hsz hle hS
    refine ⟨fun hr => by rw [hfin listed (hall listed hsz hr)]; exact hQ w hS, fun i hi => ?_⟩
    obtain ⟨h0, o, ho, haft⟩ := mem_ready.1 hi
    obtain ⟨v, hv⟩ := hpo i o ho
    have hc := hcalm i o v hv
    have hlt : i < ops.size := (Array.getElem?_eq_some_iff.1 ho).1
    have hc' : Calm P ops S o v (putL (fun j => listed.getD j true) ps 0 a0) := by
      refine hc.agree (hsel i o · · ho) fun t ht => ?_
      refine putL_agree ps 0 a0 a0 rfl rfl fun j oj vj hj hd => ?_
      rw [Nat.zero_add, Nat.zero_add]
      obtain ⟨h1, e, he, hb, hej⟩ := ((hat i o ho).2 j oj t (hop j oj vj hj) hd).2 ht
      have h2 := haft e he hb
      rw [hej] at h2
      have hjs : j < listed.size := by omega
      have h3 : listed.getD j true = true := by simpa [hjs] using h2
      rw [h3]
      simpa using h1
    refine hc'.wpOp ho hS fun w' hS' => ?_
    have hadd : putL (fun j => (listed.setIfInBounds i true).getD j true) ps 0 a0 = (putL (fun j => listed.getD j true) ps 0 a0).put o.dst v := by
      refine putL_add ps 0 i a0 o v hv (by simpa using h0) ?_ (fun j hj => ?_) fun j o' v' hj hji d hd => ?_
      · have : i < listed.size := by omega
        simp [this]
      · exact getD_set_ne true (by omega)
      · exact ((hat i o ho).2 j o' d (hop j o' v' hj) hd).1 hji
    rw [← hadd]
    exact ih _ w' (by simpa using hsz) (by have := left_less hlt h0; omega) hS'
/-- The region, in the text's order. -/
theorem wp_region_calm {id : Nat} {a : Act} {w : World} (hm : P.follows .mixedOrders = true) (hok : calmOk .any ops = true) (hS : S w.drew)
    (h : CalmSeq P ops S ops.toList a fun A => ∀ w', S w' → Q .normal A w') : (Code.region id ops true).wp P Q a w := by
  refine wp_region_any hm ?_
  obtain ⟨ps, h1, h2, h3⟩ := CalmSeq.vals ops.toList 0 a h
  have := calm_any hok h1 h3 h2 ops.size (Array.replicate ops.size false) w.drew (by simp) (by
    have := List.length_filter_le (fun j => !(Array.replicate ops.size false).getD j true) (List.range ops.size)
    simpa [left] using this) hS
  have e : putL (fun j => (Array.replicate ops.size false).getD j true) ps 0 a = a := by
    have key : ∀ (qs : List (Oper × Value)) (k : Nat) (a : Act) (f : Nat → Bool), (∀ j, j < k + qs.length → f j = false) → putL f qs k a = a := by
      intro qs
      induction qs with
      | nil => intro k a f _; rfl
      | cons q qs ih =>
        intro k a f h
        obtain ⟨o, v⟩ := q
        rw [putL, h k (by simp)]
        exact ih (k + 1) _ f fun j hj => h j (by simp at hj ⊢; omega)
    refine key ps 0 a _ fun j hj => ?_
    have hl : ps.length = ops.size := by have := congrArg List.length h1; simpa using this
    have : j < ops.size := by omega
    simp [this]
  rw [e] at this
  exact this
end
end Go.Proofs.YtnaoomchekhcgaaDoor
