/- The laws' own helpers for an argument that is a slice of slices of numbers: how it reads, its size, a copy of it. -/
import Derived.Test.YtlcmfangecbdgaaLaw5
import Derived.Test.YtlcmfangecbdgaaRow
import Derived.Test.YtlcmfangecbdgaaNat
import Derived.Deep.Matrix
namespace Go.Proofs.Ytlcmfangecbdgaa
open Go.RowKit
/-- The slice '.slice A n c' of rows reads as ps. -/
structure RS (w : World) (A : Option Addr) (n : Nat) (ps : List RowP) : Prop where
  len : ps.length = n
  top : ∀ k, k < n → ∃ ad p, A = some ad ∧ ad.block < w.heap.size ∧ ps[k]? = some p ∧ w.cell? (ad.add k) = some (rowV p)
  rows : ∀ p ∈ ps, RI w p.1.1 p.2.length p.2
theorem RS.up {w w' : World} {A : Option Addr} {n : Nat} {ps : List RowP} (h : RS w A n ps) (hb : Below w.heap.size w w') : RS w' A n ps :=
  ⟨h.len, fun k hk => by
    obtain ⟨ad, p, e, hl, hp, hc⟩ := h.top k hk
    exact ⟨ad, p, e, Nat.lt_of_lt_of_le hl hb.size, hp, (hb.cell (by rw [block_of_add]; exact hl)).trans hc⟩, fun p hp => (h.rows p hp).up hb⟩
theorem RS.alloc {w : World} {A : Option Addr} {n : Nat} {ps : List RowP} (h : RS w A n ps) (o : Obj) : RS (w.alloc o) A n ps := h.up (by go_grown)
theorem sumL_take {ps : List RowP} {k : Nat} {p : RowP} (h : ps[k]? = some p) : sumL (snds (ps.take (k + 1))) = sumL (snds (ps.take k)) + p.2.length := by
  obtain ⟨hk, rfl⟩ := List.getElem?_eq_some_iff.1 h
  rw [List.take_succ_eq_append_getElem hk, snds, List.map_append, sumL_app]
  simp [snds, sumL]
theorem sumL_take_le (ps : List RowP) (k : Nat) : sumL (snds (ps.take k)) ≤ sumL (snds ps) := by
  have h : ps = ps.take k ++ ps.drop k := (List.take_append_drop k ps).symm
  have h2 : sumL (snds ps) = sumL (snds (ps.take k)) + sumL (snds (ps.drop k)) := by
    conv => lhs; rw [h]
    rw [snds, List.map_append, sumL_app]; rfl
  omega
set_option maxHeartbeats 1000000 in
theorem szIntSS_ok (A : Option Addr) (n c : Nat) (ps : List RowP) (l : Int) (w : World) (h : RS w A n ps) (hs : (n : Int) + (sumL (snds ps) : Nat) ≤ l) (hl : l ≤ 1048576) :
    Calls Try.prog 25 #[.slice A n c, .int .i64 l] w fun e w' => e = .returned (.int .i64 (l - n - (sumL (snds ps) : Nat))) ∧ w = w' := by
  have HH := Lib.hid h
  have HSm := Lib.hid fun k => sumL_take_le ps k
  have HLen := Lib.hid h.len
  obtain ⟨tot, htot⟩ : ∃ tot, tot = sumL (snds ps) := ⟨_, rfl⟩
  have HT := Lib.hid htot
  rw [← htot] at hs ⊢
  clear htot h
  have hl0p : ¬ l - (n : Int) < 0 := by omega
  have hn : n ≤ 1048576 := by omega
  go_enter Try.func25, Try.ntmps25
  go_wp2
  go_loop [1, 5] (fun le i => ∃ k t : Nat, k ≤ n ∧ i = .int .i64 (k : Nat) ∧ le = .int .i64 (l - n - (t : Nat)) ∧ Hid (t = sumL (snds (ps.take k)))) (fun _ i => n - (intOf i).toNat)
  case atStart => exact ⟨0, 0, Nat.zero_le _, rfl, by simp, by simp [Hid, snds, sumL]⟩
  case round =>
    obtain ⟨k, t, hk, rfl, rfl, ht⟩ := hrel
    have htt : t ≤ tot := by rw [ht.out, HT.out]; exact HSm.out k
    by_cases hlt : k < n
    · obtain ⟨ad, p, rfl, hla, hp, hc⟩ := HH.out.top k hlt
      unfold rowV at hc
      have HS := Lib.hid (sumL_take hp)
      have hnx : t + p.2.length ≤ tot := by
        have h1 := HSm.out (k + 1)
        rw [HS.out, ← ht.out] at h1
        rw [HT.out]; exact h1
      obtain ⟨lp, hlp⟩ : ∃ lp, lp = p.2.length := ⟨_, rfl⟩
      rw [← hlp] at hc hnx
      have HLP := Lib.hid hlp
      clear hp hlp
      obtain ⟨l3, hl3⟩ : ∃ l3, l3 = l - n - (t : Int) := ⟨_, rfl⟩
      have HL3 := Lib.hid hl3
      have h30 : (lp : Int) ≤ l3 := by omega
      have h31 : l3 ≤ 1048576 := by omega
      rw [← hl3]
      clear hl3
      go_wp2_with fail
      refine (szIntS_ok p.1.1 lp p.1.2 l3 _ h30 h31).mono ?_
      rintro e w1 ⟨rfl, rfl⟩
      have hneg : ¬ l3 - (lp : Int) < 0 := by omega
      go_wp2
      go_round
      case rel => exact ⟨k + 1, t + lp, by omega, by go_num, (by rw [HL3.out]; congr 1; omega), by show t + lp = _; rw [HS.out, ← ht.out, HLP.out]⟩
      case measure => simp [intOf]; omega
    · obtain rfl : k = n := by omega
      have HE := Lib.hid (show t = tot by rw [ht.out, HT.out, List.take_of_length_le (by rw [HLen.out]; exact Nat.le_refl _)])
      go_wp2
      go_ret
      rw [HE.out]
      exact ⟨rfl, rfl⟩
set_option maxHeartbeats 1000000 in
theorem szIntSS_big (A : Option Addr) (n c : Nat) (ps : List RowP) (l : Int) (w : World) (h : RS w A n ps) (hs : l < (n : Int) + (sumL (snds ps) : Nat)) (h0 : 0 ≤ l) (hl : l ≤ 1048576) (hn : n ≤ 9223372036854775807) (hrl : ∀ p ∈ ps, p.2.length ≤ 9223372036854775807) :
    Calls Try.prog 25 #[.slice A n c, .int .i64 l] w fun e w' => e = .returned (.int .i64 (-1)) ∧ w = w' := by
  have HH := Lib.hid h
  have HRL := Lib.hid hrl
  have HSm := Lib.hid fun k => sumL_take_le ps k
  have HLen := Lib.hid h.len
  obtain ⟨tot, htot⟩ : ∃ tot, tot = sumL (snds ps) := ⟨_, rfl⟩
  have HT := Lib.hid htot
  rw [← htot] at hs
  clear htot h hrl
  by_cases hneg : l - (n : Int) < 0
  · go_enter Try.func25, Try.ntmps25
    go_wp2
    go_ret
    exact ⟨rfl, rfl⟩
  have hn2 : n ≤ 1048576 := by omega
  go_enter Try.func25, Try.ntmps25
  go_wp2
  go_loop [1, 5] (fun le i => ∃ k t : Nat, k ≤ n ∧ i = .int .i64 (k : Nat) ∧ le = .int .i64 (l - n - (t : Nat)) ∧ (t : Int) ≤ l - n ∧ Hid (t = sumL (snds (ps.take k)))) (fun _ i => n - (intOf i).toNat)
  case atStart => exact ⟨0, 0, Nat.zero_le _, rfl, by simp, by omega, by simp [Hid, snds, sumL]⟩
  case round =>
    obtain ⟨k, t, hk, rfl, rfl, hle, ht⟩ := hrel
    by_cases hlt : k < n
    · obtain ⟨ad, p, rfl, hla, hp, hc⟩ := HH.out.top k hlt
      unfold rowV at hc
      have HS := Lib.hid (sumL_take hp)
      have hlr := HRL.out p (List.mem_of_getElem? hp)
      obtain ⟨lp, hlp⟩ : ∃ lp, lp = p.2.length := ⟨_, rfl⟩
      rw [← hlp] at hc hlr
      have HLP := Lib.hid hlp
      clear hp hlp
      obtain ⟨l3, hl3⟩ : ∃ l3, l3 = l - n - (t : Int) := ⟨_, rfl⟩
      have HL3 := Lib.hid hl3
      have h31 : l3 ≤ 1048576 := by omega
      have h32 : 0 ≤ l3 := by omega
      rw [← hl3]
      clear hl3
      by_cases h30 : (lp : Int) ≤ l3
      · go_wp2_with fail
        refine (szIntS_ok p.1.1 lp p.1.2 l3 _ h30 h31).mono ?_
        rintro e w1 ⟨rfl, rfl⟩
        have hneg : ¬ l3 - (lp : Int) < 0 := by omega
        go_wp2
        go_round
        case rel => exact ⟨k + 1, t + lp, by omega, by go_num, (by rw [HL3.out]; congr 1; omega), by have := HL3.out; omega, by show t + lp = _; rw [HS.out, ← ht.out, HLP.out]⟩
        case measure => simp [intOf]; omega
      · go_wp2_with fail
        refine (szIntS_big p.1.1 lp p.1.2 l3 _ (by omega) h32 hlr).mono ?_
        rintro e w1 ⟨rfl, rfl⟩
        go_wp2
        go_ret
        exact ⟨rfl, rfl⟩
    · exfalso
      obtain rfl : k = n := by omega
      have HE := Lib.hid (show t = tot by rw [ht.out, HT.out, List.take_of_length_le (by rw [HLen.out]; exact Nat.le_refl _)])
      have := HE.out
      omega
def nils (n : Nat) : Array Value := Array.replicate n (.slice none 0 0)
theorem make_rows (n : Nat) (hn : n ≤ 1048576) (w : World) :
    (Instr.makeSlice 36 (.int .i64 (n : Int)) (.int .i64 (n : Int))).run Try.prog w = .ok (.slice (some ⟨w.heap.size, 0, none⟩) n n) (w.alloc (.cells (nils n) 22)) := by
  obtain ⟨i0, hi, hz0, hz1, hz2⟩ := info_parts Try.infoS
  have h := run_make (P := Try.prog) w 36 22 i0 (.slice none 0 0) Try.underlying36 hi hz0 .i64 .i64 n n (by omega) (by omega) (by rw [hz2]; omega) (by omega)
  rw [h, hz1]
  have e : madeCells (Value.slice none 0 0).cells (((n : Int).toNat) * 1) = nils n := by
    simp only [madeCells, nils, Value.cells, Int.toNat_natCast, Nat.mul_one]
    apply Array.ext
    · simp
    · intro i h1 h2; simp [Nat.mod_one]
  rw [e, Int.toNat_natCast]
/-- The first rows are copied. -/
def copR (qs : List RowP) (n : Nat) : Array Value := (qs.map rowV ++ List.replicate (n - qs.length) (Value.slice none 0 0)).toArray
theorem copR_zero (n : Nat) : copR [] n = nils n := by simp [copR, nils]
theorem copR_all {qs : List RowP} {n : Nat} (h : qs.length = n) : copR qs n = (qs.map rowV).toArray := by simp [copR, ← h]
theorem copR_at {qs : List RowP} {n : Nat} (h : qs.length < n) : (copR qs n)[qs.length]? = some (.slice none 0 0) := by
  simp only [copR, List.getElem?_toArray]
  rw [List.getElem?_append_right (by simp)]
  simp only [List.length_map, Nat.sub_self, List.getElem?_replicate]
  rw [if_pos (by omega)]
theorem copR_set {qs : List RowP} {n : Nat} (h : qs.length < n) (p : RowP) : (copR qs n).setIfInBounds qs.length (rowV p) = copR (qs ++ [p]) n := by
  simp only [copR, List.setIfInBounds_toArray]
  congr 1
  rw [List.set_append_right _ _ (by simp), List.map_append, List.append_assoc]
  congr 1
  simp only [List.length_map, Nat.sub_self, List.map_cons, List.map_nil, List.length_append, List.length_cons, List.length_nil]
  obtain ⟨m, hm⟩ : ∃ m, n - qs.length = m + 1 := ⟨n - qs.length - 1, by omega⟩
  have hm' : n - (qs.length + (0 + 1)) = m := by omega
  rw [hm, hm', List.replicate_succ, List.set_cons_zero]
  rfl
set_option maxHeartbeats 1000000 in
theorem toIntSS_any (A : Option Addr) (n c : Nat) (ps : List RowP) (w : World) (h : RS w A n ps) (hn : n ≤ 1048576) (hs : sumL (snds ps) ≤ 1048576) :
    Calls Try.prog 27 #[.slice A n c] w fun e w' => ∃ g qs, e = .returned (.slice (some ⟨g, 0, none⟩) n n) ∧ OwnS w' w.heap.size (some ⟨g, 0, none⟩) n n qs ∧ snds qs = snds ps ∧ Below w.heap.size w w' := by
  have hmk := make_rows n hn
  have HH := Lib.hid h
  have HS := Lib.hid hs
  have HLen := Lib.hid h.len
  clear hs h
  go_enter Try.func27, Try.ntmps27
  go_wp2
  clear hmk
  go_loopw [4] (fun i wr => ∃ (k : Nat) (qs : List RowP), k ≤ n ∧ i = .int .i64 (k : Nat) ∧ qs.length = k ∧ Blk wr w.heap.size 22 (copR qs n) ∧ (∀ p ∈ qs, OwnI wr (w.heap.size + 1) p.1.1 p.2.length p.1.2 p.2) ∧ Hid (qs.Pairwise (fun p q => ∀ j, (rowV p).ownBlock = some j → (rowV q).ownBlock ≠ some j) ∧ snds qs = snds (ps.take k)) ∧ Below w.heap.size w wr) (fun i _ => n - (intOf i).toNat)
  case atStart => exact ⟨0, [], Nat.zero_le _, rfl, rfl, by rw [copR_zero]; exact Blk.new _ _ _, (fun p hp => by cases hp), ⟨List.Pairwise.nil, by simp [snds]⟩, by go_grown⟩
  case round =>
    obtain ⟨k, qs, hk, rfl, hql, hblk, hrows, hpq, hb⟩ := hrel
    obtain ⟨wo, rfl⟩ : ∃ wo : World, wo = wr := ⟨_, rfl⟩
    by_cases hlt : k < n
    · obtain ⟨ad, p, rfl, hla, hp, hc⟩ := (HH.out.up hb).top k hlt
      have hri := (HH.out.up hb).rows p (List.mem_of_getElem? hp)
      have hpl : p.2.length ≤ 1048576 := by
        have : p.2 ∈ snds ps := List.mem_map.2 ⟨p, List.mem_of_getElem? hp, rfl⟩
        have h1 := sumL_mem this
        have h2 := HS.out
        omega
      have HTk := Lib.hid (show snds (ps.take (k + 1)) = snds (ps.take k) ++ [p.2] by
        obtain ⟨hk2, rfl⟩ := List.getElem?_eq_some_iff.1 hp
        rw [List.take_succ_eq_append_getElem hk2, snds, List.map_append]; rfl)
      unfold rowV at hc
      have hsz := hblk.lt
      obtain ⟨ys, hys⟩ : ∃ ys, ys = p.2 := ⟨_, rfl⟩
      rw [← hys] at hc hri hpl HTk
      obtain ⟨lp, hlp⟩ : ∃ lp, lp = ys.length := ⟨_, rfl⟩
      have HLp := Lib.hid hlp
      rw [← hlp] at hc hri hpl
      clear hp hys hlp
      go_wp2_with fail
      refine (toIntS_any p.1.1 lp p.1.2 ys _ hri hpl).mono ?_
      rintro e w2 ⟨g2, rfl, hg2, hk2, hb2⟩
      have hblk2 := hblk.up hb2
      have hcs : w2.cell? ⟨w.heap.size, k, none⟩ = some (.slice none 0 0) := by
        rw [hblk2.cell, ← hql]; exact copR_at (by omega)
      have hfz := hblk2.frozen k
      have hnew := (OwnI.of_blk hk2 HLp.out.symm (by omega)).more (base' := w.heap.size + 1) (by omega)
      have hset := hblk2.set_ k (.slice (some ⟨g2, 0, none⟩) lp lp)
      have hcop : (copR qs n).setIfInBounds k (.slice (some ⟨g2, 0, none⟩) lp lp) = copR (qs ++ [((some ⟨g2, 0, none⟩, lp), ys)]) n := by
        have := copR_set (qs := qs) (n := n) (by omega) ((some ⟨g2, 0, none⟩, lp), ys)
        rw [hql] at this
        rw [← this]
        simp only [rowV, ← HLp.out]
      have HC := Lib.hid hcop
      clear hcop
      have hrows2 : ∀ q ∈ qs ++ [(((some (⟨g2, 0, none⟩ : Addr), lp), ys) : RowP)], OwnI w2 (w.heap.size + 1) q.1.1 q.2.length q.1.2 q.2 := fun q hq => by
        rcases List.mem_append.1 hq with hq | hq
        · exact (hrows q hq).up hb2
        · obtain rfl := List.mem_singleton.1 hq
          rw [← HLp.out]; exact hnew
      have hap : (qs ++ [(((some (⟨g2, 0, none⟩ : Addr), lp), ys) : RowP)]).Pairwise fun p q => ∀ j, (rowV p).ownBlock = some j → (rowV q).ownBlock ≠ some j := by
        rw [List.pairwise_append]
        refine ⟨hpq.out.1, List.pairwise_singleton _ _, fun q hq r hr j hj e => ?_⟩
        obtain rfl := List.mem_singleton.1 hr
        have h1 := ((hrows q hq).block j hj).2
        have h2 : g2 = j := by simpa [rowV, Value.ownBlock] using e
        omega
      have HAp := Lib.hid hap
      have hg3 := grown_setCell w2 ⟨w.heap.size, k, none⟩ (.slice (some ⟨g2, 0, none⟩) lp lp)
      have hrows3 : ∀ q ∈ qs ++ [(((some (⟨g2, 0, none⟩ : Addr), lp), ys) : RowP)], OwnI (w2.setCell ⟨w.heap.size, k, none⟩ (.slice (some ⟨g2, 0, none⟩) lp lp)) (w.heap.size + 1) q.1.1 q.2.length q.1.2 q.2 := fun q hq => by
        refine (hrows2 q hq).kept hg3 ?_
        rcases hv : (Value.slice q.1.1 q.2.length q.1.2).ownBlock with _ | j
        · exact .inl rfl
        · have := (hrows2 q hq).block j hv
          refine .inr fun e => ?_
          injection e with e
          simp only at e
          omega
      have HR3 := Lib.hid hrows3
      have hb3 := (Up.then_ hb hb2).setCell (p := ⟨w.heap.size, k, none⟩) (Nat.le_refl _) (.slice (some ⟨g2, 0, none⟩) lp lp)
      have HSn := Lib.hid (show snds (qs ++ [(((some (⟨g2, 0, none⟩ : Addr), lp), ys) : RowP)]) = snds (ps.take (k + 1)) by
        rw [HTk.out, ← hpq.out.2, snds, List.map_append]; rfl)
      clear hrows hrows2 hrows3 hap hblk hblk2 hpq hri hk2 hnew hg3
      go_wp2
      go_roundw
      case rel => exact ⟨k + 1, qs ++ [((some ⟨g2, 0, none⟩, lp), ys)], by omega, by go_num, by simp [hql], by rw [← HC.out]; exact hset, HR3.out, ⟨HAp.out, HSn.out⟩, hb3⟩
      case measure => simp [intOf]; omega
    · obtain rfl : k = n := by omega
      have HE := Lib.hid (show snds qs = snds ps by rw [hpq.out.2, List.take_of_length_le (by rw [HLen.out]; exact Nat.le_refl _)])
      rw [copR_all hql] at hblk
      have hown := hblk.own (base := w.heap.size) (n := k) (Nat.le_refl _) (by simp [hql]) (by unfold maxLen; omega)
      go_wp2
      go_ret
      exact ⟨_, rfl, qs, ⟨by simpa using hown, fun p hp => (hrows p hp).more (by omega), hpq.out.1⟩, HE.out, hb⟩
section
variable {H : Type} {enc : TypeId × Value → H} {P : Program} {W : World} {base : Nat} {held : Bool}
open Go.ChangeShapes Go.WideShapes Go.ChangeAt Go.Joins Go.Deep in
/-- An argument that is a slice of slices of numbers. -/
theorem open_SS {r : Reach} {b0 : Nat} {T S : TypeId} {v : Value} {d : DataW H} {p : List MemPlace} (hT : P.underlying T = some (.slice S)) (hS : P.underlying S = some (.slice 3)) (h3 : P.underlying 3 = some (.int .i64)) (hcS : P.cellsOf S = 1) (hc : P.cellsOf 3 = 1)
    (hv : Value.okWide P W r b0 T v) (h : DataW.Trod enc P W base (fun _ => true) held T v d p) : ∃ A n c ps, v = .slice A n c ∧ RS W A n ps ∧ n ≤ 9223372036854775807 ∧ ∀ p ∈ ps, p.2.length ≤ 9223372036854775807 := by
  obtain ⟨a0, len0, cap0, rfl⟩ := okWide_slice hT hv
  obtain ⟨fuel, hf⟩ := h
  rcases open_int_rows hT hS h3 hcS hc (show DataW.trod enc P W base (fun _ => true) held fuel T [.slice a0 len0 cap0] = some (d, p) by simpa [Value.cells] using hf) with ⟨hcs, _⟩ | ⟨a, len, cap, A, L, C, Z, hcs, _, hlc, hm, _, hx⟩
  · simp at hcs
    obtain ⟨rfl, rfl, rfl⟩ := hcs
    exact ⟨none, 0, 0, [], rfl, ⟨rfl, fun k hk => by omega, fun p hp => by cases hp⟩, by omega, fun p hp => by cases hp⟩
  · simp at hcs
    obtain ⟨rfl, rfl, rfl⟩ := hcs
    have hrow : ∀ k, k < len0 → ((Z k).take (L k)).length = L k := fun k hk => by
      obtain ⟨_, h1, _, h2, _⟩ := hx k (by omega)
      rw [List.length_take]; omega
    refine ⟨some a, len0, cap0, (List.range len0).map fun k => ((A k, C k), (Z k).take (L k)), rfl, ⟨by simp, fun k hk => ?_, fun q hq => ?_⟩, by unfold maxLen at hm; omega, fun q hq => ?_⟩
    · obtain ⟨h0, _⟩ := hx k (by omega)
      have hb := World.block_lt_of_cell? W _ h0
      rw [block_of_add] at hb
      refine ⟨a, _, rfl, hb, by rw [List.getElem?_map, List.getElem?_range hk]; rfl, ?_⟩
      rw [h0, rowV, hrow k hk]
    · obtain ⟨k, hk, rfl⟩ := List.mem_map.1 hq
      have hk' := List.mem_range.1 hk
      obtain ⟨_, h1, h2, h4, _, h5, h6⟩ := hx k (by omega)
      refine ⟨rfl, fun hpos => ?_⟩
      rw [hrow k hk'] at hpos
      rcases hA : A k with _ | a'
      · have := h5 hA; omega
      · refine ⟨a', rfl, fun j hj => ?_⟩
        rw [hrow k hk'] at hj
        rw [(h6 a' hA).2 j (by omega)]
        simp only [List.getD_eq_getElem?_getD]
        rw [List.getElem?_take_of_lt hj]
    · obtain ⟨k, hk, rfl⟩ := List.mem_map.1 hq
      have hk' := List.mem_range.1 hk
      obtain ⟨_, h1, h2, _⟩ := hx k (by omega)
      rw [hrow k hk']
      unfold maxLen at h2
      omega
end
end Go.Proofs.Ytlcmfangecbdgaa
