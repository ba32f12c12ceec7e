/- Chapter 13, plain: orientations. -/
import Derived.Test.YtcaoelihmkbedaaPure3
import Derived.Test.YtcaoelihmkbedaaBase
namespace Go.Proofs.Ytcaoelihmkbedaa

/-- A bit of a number as the machine sees it. -/
def bitZ (x : Int) (v : Nat) : Bool := bits .and .i64 (x / 2 ^ v) 1 == 1
theorem bitZ_nat {s v : Nat} (hs : s < 9223372036854775808) : bitZ (s : Int) v = s.testBit v := bit_one s v hs
def nt (T : List Int) (v : Nat) : Nat := (T.getD v 0).toNat
def rangeOk (n : Nat) (T : List Int) (v : Nat) : Prop := 0 ≤ T.getD v 0 ∧ T.getD v 0 < (2 ^ n : Nat)
instance (n : Nat) (T : List Int) (v : Nat) : Decidable (rangeOk n T v) := by unfold rangeOk; infer_instance
def pairOk (Q : List Nat) (T : List Int) (v x : Nat) : Bool :=
  ((nb Q v).testBit x == ((nt T v).testBit x || (nt T x).testBit v)) && !((nt T v).testBit x && (nt T x).testBit v)
def orient (n : Nat) (Q : List Nat) (T : List Int) : Bool := decide ((∀ v, v < n → rangeOk n T v) ∧ ∀ v, v < n → ∀ x, x < n → pairOk Q T v x = true)
def isOrient (N : Int) (X T : List Int) : Bool := isGraph N X && (decide (T.length = X.length) && orient X.length (X.map Int.toNat) T)
theorem isOrient_no {N : Int} {X T : List Int} (h : isGraph N X = false) : isOrient N X T = false := by rw [isOrient, h]; rfl
theorem isOrient_len {N : Int} {X T : List Int} (h : T.length ≠ X.length) : isOrient N X T = false := by rw [isOrient, decide_eq_false h]; simp
theorem nats_back (Q : List Nat) : (ints Q).map Int.toNat = Q := by simp [ints, List.map_map, Function.comp_def]
theorem isOrient_ok {n : Nat} {Q : List Nat} {T : List Int} (h : GOk n Q) (hl : T.length = n) : isOrient n (ints Q) T = orient n Q T := by
  rw [isOrient, h.is, nats_back, ints_len, h.len, hl]; simp
theorem orient_all {n : Nat} {Q : List Nat} {T : List Int} (h : ∀ v, v < n → rangeOk n T v) (k : ∀ v, v < n → ∀ x, x < n → pairOk Q T v x = true) : orient n Q T = true := decide_eq_true ⟨h, k⟩
theorem orient_out {n v : Nat} {Q : List Nat} {T : List Int} (hv : v < n) (h : ¬ rangeOk n T v) : orient n Q T = false := decide_eq_false fun k => h (k.1 v hv)
theorem orient_pair {n v x : Nat} {Q : List Nat} {T : List Int} (hv : v < n) (hx : x < n) (h : pairOk Q T v x = false) : orient n Q T = false :=
  decide_eq_false fun k => by have := k.2 v hv x hx; rw [h] at this; cases this
theorem rangeOk_nat {n v : Nat} {T : List Int} (h : rangeOk n T v) : T.getD v 0 = (nt T v : Nat) ∧ nt T v < 2 ^ n := by
  obtain ⟨h0, h1⟩ := h
  unfold nt
  exact ⟨by omega, by omega⟩
theorem orient_spec {n : Nat} {Q : List Nat} {T : List Int} (h : orient n Q T = true) : (∀ v, v < n → rangeOk n T v) ∧ ∀ v, v < n → ∀ x, x < n → pairOk Q T v x = true := of_decide_eq_true h
/-- What the program sees of v: in range, within the row, each edge of the row goes one way. -/
def seen (n : Nat) (Q : List Nat) (T : List Int) (v : Nat) : Prop := rangeOk n T v ∧ dif (nt T v) (nb Q v) = 0 ∧ ∀ x, x < n → (nb Q v).testBit x = true → (nt T v).testBit x ≠ bitZ (T.getD x 0) v
theorem dif_zero_bit {a b x : Nat} (h : dif a b = 0) (hb : b.testBit x = false) : a.testBit x = false := by
  have := congrArg (fun y => y.testBit x) h
  simpa [testBit_dif, hb] using this
theorem small_of {n t : Nat} (h7 : n ≤ 7) (h : t < 2 ^ n) : t < 9223372036854775808 := by have := pow_le7 h7; omega
theorem orient_of_seen {n : Nat} {Q : List Nat} {T : List Int} (h : GOk n Q) (k : ∀ v, v < n → seen n Q T v) : orient n Q T = true := by
  refine orient_all (fun v hv => (k v hv).1) fun v hv x hx => ?_
  obtain ⟨hr, hd, hp⟩ := k v hv
  obtain ⟨hrx, hdx, _⟩ := k x hx
  rcases Bool.eq_false_or_eq_true ((nb Q v).testBit x) with e | e
  · have h1 := hp x hx e
    obtain ⟨e2, e3⟩ := rangeOk_nat hrx
    rw [e2, bitZ_nat (small_of h.le e3)] at h1
    rw [pairOk, e]
    revert h1
    cases (nt T v).testBit x <;> cases (nt T x).testBit v <;> simp
  · have e' : (nb Q x).testBit v = false := by rw [← h.sym]; exact e
    rw [pairOk, e, dif_zero_bit hd e, dif_zero_bit hdx e']; rfl
theorem orient_no_sub {n v : Nat} {Q : List Nat} {T : List Int} (hv : v < n) (hr : rangeOk n T v) (h : dif (nt T v) (nb Q v) ≠ 0) : orient n Q T = false := by
  refine decide_eq_false fun k => h ?_
  apply Nat.eq_of_testBit_eq
  intro x
  rw [testBit_dif, Nat.zero_testBit]
  rcases Bool.eq_false_or_eq_true ((nt T v).testBit x) with e | e
  · have hx := bit_lt (rangeOk_nat hr).2 e
    have := k.2 v hv x hx
    rw [pairOk, e] at this
    revert this
    cases (nb Q v).testBit x <;> simp
  · rw [e]; rfl
theorem orient_no_same {n v x : Nat} {Q : List Nat} {T : List Int} (h7 : n ≤ 7) (hv : v < n) (hx : x < n) (he : (nb Q v).testBit x = true) (h : (nt T v).testBit x = bitZ (T.getD x 0) v) : orient n Q T = false := by
  refine decide_eq_false fun k => ?_
  obtain ⟨e2, e3⟩ := rangeOk_nat (k.1 x hx)
  rw [e2, bitZ_nat (small_of h7 e3)] at h
  have := k.2 v hv x hx
  rw [pairOk, he, h] at this
  revert this
  cases (nt T x).testBit v <;> simp
theorem andNot_neg {x : Int} {q : Nat} (h0 : -9223372036854775808 ≤ x) (h1 : x < 0) (hq : q < 9223372036854775808) : bits .andNot .i64 x (q : Int) ≠ 0 := by
  show IntKind.i64.wrap ((BitVec.ofInt 64 x &&& ~~~BitVec.ofInt 64 (q : Int)).toNat : Int) ≠ 0
  rw [IntKind.wrap_i64]
  intro h
  have hlt := (BitVec.ofInt 64 x &&& ~~~BitVec.ofInt 64 (q : Int)).isLt
  have hz : (BitVec.ofInt 64 x &&& ~~~BitVec.ofInt 64 (q : Int)).toNat = 0 := by omega
  have hb : (BitVec.ofInt 64 x &&& ~~~BitVec.ofInt 64 (q : Int)).getLsbD 63 = false := by
    rw [← BitVec.testBit_toNat, hz]; exact Nat.zero_testBit _
  have hq63 : (BitVec.ofInt 64 (q : Int)).getLsbD 63 = false := by
    rw [← BitVec.testBit_toNat, ofInt_i64 q hq, Nat.testBit_eq_decide_div_mod_eq]
    simp; omega
  have hx63 : (BitVec.ofInt 64 x).getLsbD 63 = true := by
    rw [← BitVec.testBit_toNat, BitVec.toNat_ofInt, Nat.testBit_eq_decide_div_mod_eq]
    simp; omega
  rw [BitVec.getLsbD_and, BitVec.getLsbD_not, hq63, hx63] at hb
  simp at hb
theorem dif_big {a b k : Nat} (ha : 2 ^ k ≤ a) (hb : b < 2 ^ k) : dif a b ≠ 0 := by
  intro h
  have hab : a = a &&& b := by
    apply Nat.eq_of_testBit_eq
    intro i
    have := congrArg (fun y => y.testBit i) h
    simp [testBit_dif] at this
    rw [Nat.testBit_and]
    revert this
    cases a.testBit i <;> cases b.testBit i <;> simp
  have : a &&& b ≤ b := Nat.and_le_right
  omega
theorem andNot_out {n v q : Nat} {T : List Int} (h7 : n ≤ 7) (hf : -9223372036854775808 ≤ T.getD v 0 ∧ T.getD v 0 ≤ 9223372036854775807) (h : ¬ rangeOk n T v) (hq : q < 2 ^ n) : (bits .andNot .i64 (T.getD v 0) (q : Int) != 0) = true := by
  have hqs := small_of h7 hq
  rw [bne_iff_ne]
  by_cases h0 : T.getD v 0 < 0
  · exact andNot_neg hf.1 h0 hqs
  · obtain ⟨a, ha⟩ : ∃ a : Nat, T.getD v 0 = a := ⟨(T.getD v 0).toNat, by omega⟩
    have hbig : 2 ^ n ≤ a := by
      have : ¬ (a < 2 ^ n) := fun hh => h ⟨by omega, by omega⟩
      omega
    rw [ha, i64_andNot_nat a q (by omega) hqs]
    have := dif_big hbig hq
    unfold dif at this
    omega
theorem fits_at {T : List Int} {v n : Nat} (hf : Fits T) (hl : T.length = n) (hv : v < n) : -9223372036854775808 ≤ T.getD v 0 ∧ T.getD v 0 ≤ 9223372036854775807 := by
  have : v < T.length := by omega
  have e : T.getD v 0 = T[v] := by simp [List.getD, List.getElem?_eq_getElem this]
  rw [e]; exact hf _ (List.getElem_mem this)
/-- Transitive: what a vertex's targets point at, it points at itself. -/
def transAt (T : List Int) (v x : Nat) : Bool := dif (nt T x) (nt T v) == 0
def trans (n : Nat) (T : List Int) : Bool := decide (∀ v, v < n → ∀ j, j < (listOf (nt T v)).length → transAt T v (nb (listOf (nt T v)) j) = true)
def isTrans (N : Int) (X T : List Int) : Bool := isOrient N X T && trans X.length T
theorem isTrans_no {N : Int} {X T : List Int} (h : isOrient N X T = false) : isTrans N X T = false := by rw [isTrans, h]; rfl
theorem trans_all {n : Nat} {T : List Int} (h : ∀ v, v < n → ∀ j, j < (listOf (nt T v)).length → transAt T v (nb (listOf (nt T v)) j) = true) : trans n T = true := decide_eq_true h
theorem trans_out {n v j : Nat} {T : List Int} (hv : v < n) (hj : j < (listOf (nt T v)).length) (h : transAt T v (nb (listOf (nt T v)) j) = false) : trans n T = false :=
  decide_eq_false fun k => by have := k v hv j hj; rw [h] at this; cases this
theorem isOrient_cases (N : Int) (X T : List Int) : isOrient N X T = false ∨ ∃ (k : Nat) (Q R : List Nat), N = k ∧ X = ints Q ∧ T = ints R ∧ GOk k Q ∧ R.length = k ∧ (∀ v, nb R v < 2 ^ k) ∧ orient k Q T = true := by
  rcases Bool.eq_false_or_eq_true (isOrient N X T) with h | h
  · refine .inr ?_
    have h' := h
    rw [isOrient, Bool.and_eq_true, Bool.and_eq_true, decide_eq_true_eq] at h'
    obtain ⟨hg, hl, _⟩ := h'
    obtain ⟨k, Q, rfl, rfl, hk⟩ := isGraph_ok hg
    have hl' : T.length = k := by rw [hl, ints_len, hk.len]
    rw [isOrient_ok hk hl'] at h
    have hr := (orient_spec h).1
    refine ⟨k, Q, T.map Int.toNat, rfl, rfl, ints_nats fun i hi => (hr i (by omega)).1, hk, by simp [hl'], fun v => ?_, h⟩
    by_cases hv : v < k
    · have := (rangeOk_nat (hr v hv)).2
      have e : nb (T.map Int.toNat) v = nt T v := by simp [nb, nt, List.getD, List.getElem?_map]; cases T[v]? <;> rfl
      rw [e]; exact this
    · have : nb (T.map Int.toNat) v = 0 := getD_out (by simp [hl']; omega)
      rw [this]; exact Nat.two_pow_pos _
  · exact .inl h
theorem nt_ints (R : List Nat) (v : Nat) : nt (ints R) v = nb R v := by rw [nt, ints_nb, Int.toNat_natCast]
theorem isTrans_ok {n : Nat} {Q R : List Nat} (h : GOk n Q) (ho : orient n Q (ints R) = true) (hl : R.length = n) : isTrans n (ints Q) (ints R) = trans n (ints R) := by
  rw [isTrans, isOrient_ok h (by rw [ints_len, hl]), ho, ints_len, h.len]; rfl
end Go.Proofs.Ytcaoelihmkbedaa
