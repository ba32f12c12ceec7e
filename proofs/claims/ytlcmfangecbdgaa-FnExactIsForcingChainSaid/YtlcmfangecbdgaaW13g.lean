/- Walks of chapter 13: l13Find; chapter 2: HasEdge, the reference's. -/
import Derived.Test.YtlcmfangecbdgaaW13f
import Derived.Test.YtlcmfangecbdgaaLaw5
import Derived.Test.YtlcmfangecbdgaaCalm
namespace Go.Proofs.Ytlcmfangecbdgaa
open Go.RowKit
/-- The place of the first such arc, or -1. -/
def fndZ (l : List (Nat × Nat)) (p : Nat × Nat) : Int := match l.findIdx? (· == p) with
  | some k => (k : Int)
  | none => -1
theorem fndZ_at {l : List (Nat × Nat)} {p : Nat × Nat} {k : Nat} (hk : k < l.length) (h : l[k] = p) (hno : ∀ j, (hj : j < k) → l[j] ≠ p) : fndZ l p = k := by
  have : l.findIdx? (· == p) = some k := by
    rw [List.findIdx?_eq_some_iff_getElem]
    exact ⟨hk, by rw [h]; exact beq_self_eq_true p, fun j hj => by have := hno j hj; simpa using this⟩
  rw [fndZ, this]
theorem fndZ_no {l : List (Nat × Nat)} {p : Nat × Nat} (h : p ∉ l) : fndZ l p = -1 := by
  have : l.findIdx? (· == p) = none := by
    rw [List.findIdx?_eq_none_iff]
    intro x hx
    simp only [beq_eq_false_iff_ne]
    exact fun e => h (e ▸ hx)
  rw [fndZ, this]
theorem fndZ_in {l : List (Nat × Nat)} {p : Nat × Nat} (h : p ∈ l) : 0 ≤ fndZ l p := by
  rw [fndZ]
  rcases hf : l.findIdx? (· == p) with _ | k
  · rw [List.findIdx?_eq_none_iff] at hf
    have := hf p h
    simp at this
  · show (0 : Int) ≤ k
    omega
theorem fndZ_neg (l : List (Nat × Nat)) (p : Nat × Nat) : decide (fndZ l p < 0) = !decide (p ∈ l) := by
  by_cases h : p ∈ l
  · rw [decide_eq_true h]
    have := fndZ_in h
    exact decide_eq_false (by omega)
  · rw [decide_eq_false h, fndZ_no h]; rfl
theorem row2_inj {p q : Nat × Nat} (h : row2 p = row2 q) : p = q := by
  unfold row2 at h
  simp only [List.cons.injEq, and_true] at h
  exact Prod.ext (by omega) (by omega)
/-- Row k of a slice of arcs. -/
theorem OwnS.arc {w : World} {base n c k : Nat} {A : Option Addr} {ps : List RowP} {l : List (Nat × Nat)} (h : OwnS w base A n c ps) (hl : ps.map Prod.snd = l.map row2) (hk : k < n) :
    ∃ g r d, A = some ⟨g, 0, none⟩ ∧ ∃ hkl : k < l.length, w.cell? ⟨g, k, none⟩ = some (.slice (some ⟨r, 0, none⟩) 2 d) ∧ w.cell? ⟨r, 0, none⟩ = some (.int .i64 (l[k].1 : Nat)) ∧ w.cell? ⟨r, 1, none⟩ = some (.int .i64 (l[k].2 : Nat)) ∧ g < w.heap.size ∧ r < w.heap.size ∧ OwnI w base (some ⟨r, 0, none⟩) 2 d [(l[k].1 : Int), (l[k].2 : Int)] ∧ ps[k]? = some ((some ⟨r, 0, none⟩, d), [(l[k].1 : Int), (l[k].2 : Int)]) := by
  obtain ⟨g, p, rfl, _, hc, hg, hown, hpk⟩ := h.split hk
  have hll : l.length = n := by have := congrArg List.length hl; simp at this; rw [← this, h.len]
  have hkl : k < l.length := by omega
  have hp : p.2 = row2 l[k] := by
    have h1 := congrArg (fun x => x[k]?) hl
    simp only [List.getElem?_map, hpk, Option.map_some, List.getElem?_eq_getElem hkl, Option.some.injEq] at h1
    exact h1
  obtain ⟨⟨B, d⟩, xs⟩ := p
  replace hp : xs = row2 l[k] := hp
  replace hown : OwnI w base B xs.length d xs := hown
  replace hc : w.cell? ⟨g, k, none⟩ = some (.slice B xs.length d) := hc
  subst hp
  have hl2 : (row2 l[k]).length = 2 := rfl
  rw [hl2] at hown hc
  obtain ⟨r, e⟩ := hown.form (by omega)
  subst e
  have h0 := hown.ri.at_ (k := 0) (by omega)
  have h1 := hown.ri.at_ (k := 1) (by omega)
  obtain ⟨a0, e0, _, c0⟩ := h0
  obtain ⟨a1, e1, _, c1⟩ := h1
  injection e0 with e0
  injection e1 with e1
  subst e0
  subst e1
  rw [addS] at c0 c1
  exact ⟨g, r, d, rfl, hkl, hc, c0, c1, hg, (hown.block r rfl).2, hown, hpk⟩
set_option maxHeartbeats 1000000 in
theorem l13Find_any {A : Option Addr} {n c base : Nat} {ps : List RowP} {l : List (Nat × Nat)} (x y : Nat) {w : World} (h : OwnS w base A n c ps) (hl : ps.map Prod.snd = l.map row2) (hn : n ≤ 1048576) :
    Calls Try.prog 58 #[.slice A n c, .int .i64 x, .int .i64 y] w fun e w' => e = .returned (.int .i64 (fndZ l (x, y))) ∧ w = w' := by
  have hll : l.length = n := by have := congrArg List.length hl; simp at this; rw [← this, h.len]
  have HL := Lib.hid hll
  have HX := Lib.hid hl
  clear hll hl
  go_enter Try.func58, Try.ntmps58
  go_wp2
  go_loop [7] (fun i => ∃ k : Nat, k ≤ n ∧ i = .int .i64 (k : Nat) ∧ Hid (∀ j, (hj : j < l.length) → j < k → l[j] ≠ (x, y))) (fun i => n - (intOf i).toNat)
  case atStart => exact ⟨0, Nat.zero_le _, rfl, fun j _ h => absurd h (by omega)⟩
  case round =>
    obtain ⟨k, hk, rfl, hno⟩ := hrel
    by_cases hlt : k < n
    · obtain ⟨g, r, d, rfl, hkl, hc, h0, h1, _, _, _, _⟩ := h.arc HX.out hlt
      have HK := Lib.hid (fun (e : l[k] = (x, y)) => fndZ_at hkl e fun j hj => hno.out j (by omega) hj)
      obtain ⟨p, hp⟩ : ∃ p, p = l[k] := ⟨_, rfl⟩
      rw [← hp] at h0 h1 HK
      have HP := Lib.hid hp
      clear hp
      obtain ⟨p1, p2⟩ := p
      simp only at h0 h1
      by_cases e1 : p1 = x
      · by_cases e2 : p2 = y
        · have d1 : ((p1 : Int) == (x : Int)) = true := by rw [beq_iff_eq]; omega
          have d2 : ((p2 : Int) == (y : Int)) = true := by rw [beq_iff_eq]; omega
          have HR := Lib.hid (HK.out (by rw [e1, e2]))
          clear e1 e2
          go_wp2
          go_ret
          rw [HR.out]
          exact ⟨rfl, rfl⟩
        · have d1 : ((p1 : Int) == (x : Int)) = true := by rw [beq_iff_eq]; omega
          have d2 : ((p2 : Int) == (y : Int)) = false := by rw [beq_eq_false_iff_ne]; omega
          have HR := Lib.hid (show l[k] ≠ (x, y) from fun e => by rw [← HP.out] at e; injection e with _ e; exact e2 e)
          clear e1 e2
          go_wp2
          go_round
          case rel => exact ⟨k + 1, by omega, by go_num, fun j hj hj2 => by
            rcases Nat.lt_succ_iff_lt_or_eq.1 hj2 with h' | rfl
            · exact hno.out j hj h'
            · exact HR.out⟩
          case measure => simp [intOf]; omega
      · have d1 : ((p1 : Int) == (x : Int)) = false := by rw [beq_eq_false_iff_ne]; omega
        have HR := Lib.hid (show l[k] ≠ (x, y) from fun e => by rw [← HP.out] at e; injection e with e; exact e1 e)
        clear e1
        go_wp2
        go_round
        case rel => exact ⟨k + 1, by omega, by go_num, fun j hj hj2 => by
          rcases Nat.lt_succ_iff_lt_or_eq.1 hj2 with h' | rfl
          · exact hno.out j hj h'
          · exact HR.out⟩
        case measure => simp [intOf]; omega
    · obtain rfl : k = n := by omega
      have HR := Lib.hid (fndZ_no (l := l) (p := (x, y)) fun hm => by
        obtain ⟨j, hj, e⟩ := List.mem_iff_getElem.1 hm
        exact hno.out j hj (by rw [← HL.out]; exact hj) e)
      go_wp2
      go_ret
      rw [HR.out]
      exact ⟨rfl, rfl⟩
theorem l13Find_up {A : Option Addr} {n c base x y : Nat} {ps : List RowP} {l : List (Nat × Nat)} {z : Int} {w : World} (h : OwnS w base A n c ps) (hl : ps.map Prod.snd = l.map row2) (hn : n ≤ 1048576) (hz : fndZ l (x, y) = z) :
    Calls Try.prog 58 #[.slice A n c, .int .i64 x, .int .i64 y] w fun e w' => e = .returned (.int .i64 z) ∧ Below w.heap.size w w' := by
  subst hz; exact (l13Find_any x y h hl hn).mono fun _ _ k => ⟨k.1, k.2 ▸ Below.refl _ _⟩
/-- Is there an edge between two numbers? -/
def hasEdge (N : Int) (X : List Int) (a b : Int) : Bool := isGraph N X && (decide (0 ≤ a ∧ a < N) && decide (0 ≤ b ∧ b < N)) && ((X.getD a.toNat 0).toNat).testBit b.toNat
theorem hasEdge_no {N : Int} {X : List Int} {a b : Int} (h : isGraph N X = false) : hasEdge N X a b = false := by rw [hasEdge, h]; rfl
theorem hasEdge_out {N : Int} {X : List Int} {a b : Int} (h : ¬ ((0 ≤ a ∧ a < N) ∧ 0 ≤ b ∧ b < N)) : hasEdge N X a b = false := by
  rw [hasEdge]
  have : (decide (0 ≤ a ∧ a < N) && decide (0 ≤ b ∧ b < N)) = false := by
    rw [← Bool.decide_and]; exact decide_eq_false h
  rw [this, Bool.and_false]; rfl
theorem hasEdge_ok {n a b : Nat} {Q : List Nat} (h : GOk n Q) (ha : a < n) (hb : b < n) : hasEdge n (ints Q) a b = edge Q a b := by
  rw [hasEdge, h.is, decide_eq_true (show (0 : Int) ≤ a ∧ (a : Int) < n by omega), decide_eq_true (show (0 : Int) ≤ b ∧ (b : Int) < n by omega), Int.toNat_natCast, Int.toNat_natCast, ints_nb, Int.toNat_natCast]
  rfl
theorem hasEdge_cases (N : Int) (X : List Int) (a b : Int) : hasEdge N X a b = false ∨ ∃ (n i j : Nat) (Q : List Nat), N = n ∧ X = ints Q ∧ a = i ∧ b = j ∧ GOk n Q ∧ i < n ∧ j < n := by
  rcases isGraph_cases N X with hg | ⟨n, Q, rfl, rfl, h⟩
  · exact .inl (hasEdge_no hg)
  · by_cases hr : (0 ≤ a ∧ a < (n : Int)) ∧ 0 ≤ b ∧ b < (n : Int)
    · exact .inr ⟨n, a.toNat, b.toNat, Q, rfl, rfl, by omega, by omega, h, by omega, by omega⟩
    · exact .inl (hasEdge_out hr)
end Go.Proofs.Ytlcmfangecbdgaa
