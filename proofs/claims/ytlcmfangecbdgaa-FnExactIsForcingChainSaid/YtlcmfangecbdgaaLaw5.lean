/- Results that are rows of rows: held one against the other, marked, read. -/
import Derived.Test.YtlcmfangecbdgaaSS
import Derived.Test.YtlcmfangecbdgaaLaw4
import Derived.Test.YtlcmfangecbdgaaCalm
namespace Go.Proofs.Ytlcmfangecbdgaa
open Go.RowKit
set_option maxRecDepth 100000
theorem addS (g k : Nat) : (⟨g, 0, none⟩ : Addr).add k = ⟨g, k, none⟩ := by unfold Addr.add; split <;> simp_all
/-- How many numbers there are. -/
def sumL : List (List Int) → Nat
  | [] => 0
  | x :: t => x.length + sumL t
theorem sumL_app (xs ys : List (List Int)) : sumL (xs ++ ys) = sumL xs + sumL ys := by
  induction xs with
  | nil => simp [sumL]
  | cons x t ih => rw [List.cons_append, sumL, sumL, ih]; omega
def snds (ps : List RowP) : List (List Int) := ps.map Prod.snd
theorem sumL_mem {xs : List (List Int)} {x : List Int} (h : x ∈ xs) : x.length ≤ sumL xs := by
  induction xs with
  | nil => cases h
  | cons y t ih =>
    rw [sumL]
    rcases List.mem_cons.1 h with rfl | h
    · omega
    · have := ih h; omega
/-- The rows marked from k on. -/
def marksS (k : Nat) : List RowP → List RowP
  | [] => []
  | p :: t => (p.1, marks k p.2.length) :: marksS (k + p.2.length) t
theorem marksS_len (k : Nat) : ∀ ps, (marksS k ps).length = ps.length
  | [] => rfl
  | p :: t => by rw [marksS, List.length_cons, List.length_cons, marksS_len]
theorem marksS_app (ps qs : List RowP) : ∀ k, marksS k (ps ++ qs) = marksS k ps ++ marksS (k + sumL (snds ps)) qs := by
  induction ps with
  | nil => intro k; simp [marksS, snds, sumL]
  | cons p t ih =>
    intro k
    rw [List.cons_append, marksS, marksS, ih, List.cons_append]
    show _ = _ :: (marksS (k + p.2.length) t ++ marksS (k + sumL (p.2 :: snds t)) qs)
    rw [sumL, Nat.add_assoc]
theorem marksS_rowV (k : Nat) : ∀ ps, (marksS k ps).map rowV = ps.map rowV := by
  intro ps
  induction ps generalizing k with
  | nil => rfl
  | cons p t ih => rw [marksS, List.map_cons, List.map_cons, ih]; simp [rowV, marks_len]
theorem marksS_sum (k : Nat) : ∀ ps, sumL (snds (marksS k ps)) = sumL (snds ps) := by
  intro ps
  induction ps generalizing k with
  | nil => rfl
  | cons p t ih =>
    show (marks k p.2.length).length + sumL (snds (marksS (k + p.2.length) t)) = p.2.length + sumL (snds t)
    rw [marks_len, ih]
section
variable {w w' : World} {base n c : Nat} {A : Option Addr} {ps : List RowP}
theorem ownsRow_kept {e : TypeId} {v : Value} {xs : List Value} {row : Option Nat} (h : w.ownsRow base e 1 v n xs) (hg : w.grownBy w' row) (hne : v.ownBlock ≠ row ∨ v.ownBlock = none) : w'.ownsRow base e 1 v n xs :=
  World.ownsRow.kept h hg (hne.elim .inr .inl)
/-- What happens below leaves it as it is. -/
theorem OwnS.kept_lt {g : Nat} (h : OwnS w base A n c ps) (hg : w.grownBy w' (some g)) (hlt : g < base) : OwnS w' base A n c ps := by
  refine ⟨World.ownsRow.kept h.top hg ?_, fun p hp => ?_, h.apart⟩
  · rcases hv : (Value.slice A n c).ownBlock with _ | k
    · exact .inl rfl
    · refine .inr fun e => ?_
      injection e with e
      have := (h.block k hv).1
      omega
  · refine (h.rows p hp).kept hg ?_
    rcases hv : (Value.slice p.1.1 p.2.length p.1.2).ownBlock with _ | k
    · exact .inl rfl
    · refine .inr fun e => ?_
      injection e with e
      have := ((h.rows p hp).block k hv).1
      omega
/-- One row's numbers are others now. -/
theorem OwnS.put_row {xs ys : List RowP} {p : RowP} {zs : List Int} (h : OwnS w base A n c (xs ++ p :: ys)) (hz : zs.length = p.2.length) (hrow : OwnI w' base p.1.1 p.2.length p.1.2 zs) (hg : w.grownBy w' (Value.slice p.1.1 p.2.length p.1.2).ownBlock) : OwnS w' base A n c (xs ++ (p.1, zs) :: ys) := by
  have hp := h.rows p (by simp)
  have hrv : rowV (p.1, zs) = rowV p := by simp [rowV, hz]
  have hap := h.apart
  rw [List.pairwise_append] at hap
  obtain ⟨hx, hpy, hxy⟩ := hap
  rw [List.pairwise_cons] at hpy
  have other : ∀ q ∈ xs ++ ys, OwnI w' base q.1.1 q.2.length q.1.2 q.2 := by
    intro q hq
    have hq' : q ∈ xs ++ p :: ys := by
      rcases List.mem_append.1 hq with h1 | h1
      · exact List.mem_append.2 (.inl h1)
      · exact List.mem_append.2 (.inr (List.mem_cons_of_mem _ h1))
    refine (h.rows q hq').kept hg ?_
    rcases hv : (Value.slice q.1.1 q.2.length q.1.2).ownBlock with _ | k
    · exact .inl rfl
    · refine .inr fun e => ?_
      rcases List.mem_append.1 hq with h1 | h1
      · exact hxy q h1 p (by simp) k hv e.symm
      · exact hpy.1 q h1 k e.symm hv
  refine ⟨?_, fun q hq => ?_, ?_⟩
  · have ht := h.top
    rw [show (xs ++ (p.1, zs) :: ys).map rowV = (xs ++ p :: ys).map rowV by simp [hrv]]
    refine World.ownsRow.kept ht hg ?_
    rcases hp.ne_top ht with e | e
    · rcases hv : (Value.slice A n c).ownBlock with _ | k
      · exact .inl rfl
      · exact .inr (by rw [e]; simp)
    · exact .inr (Ne.symm e)
  · rcases List.mem_append.1 hq with h1 | h1
    · exact other q (List.mem_append.2 (.inl h1))
    · rcases List.mem_cons.1 h1 with rfl | h1
      · show OwnI w' base p.1.1 zs.length p.1.2 zs
        rw [hz]; exact hrow
      · exact other q (List.mem_append.2 (.inr h1))
  · rw [List.pairwise_append]
    refine ⟨hx, ?_, fun q hq r hr => ?_⟩
    · rw [List.pairwise_cons]
      exact ⟨fun q hq j h1 => hpy.1 q hq j (by rw [← hrv]; exact h1), hpy.2⟩
    · rcases List.mem_cons.1 hr with rfl | hr
      · intro j h1 h2
        exact hxy q hq p (by simp) j h1 (by rw [← hrv]; exact h2)
      · exact hxy q hq r (List.mem_cons_of_mem _ hr)
theorem OwnS.split {k : Nat} (h : OwnS w base A n c ps) (hk : k < n) : ∃ g p, A = some ⟨g, 0, none⟩ ∧ ps = ps.take k ++ p :: ps.drop (k + 1) ∧ w.cell? ⟨g, k, none⟩ = some (rowV p) ∧ g < w.heap.size ∧ OwnI w base p.1.1 p.2.length p.1.2 p.2 ∧ ps[k]? = some p := by
  obtain ⟨g, p, rfl, hp, hc, hown⟩ := h.at_ hk
  have hk' : k < ps.length := by rw [h.len]; exact hk
  rw [addS] at hc
  refine ⟨g, p, rfl, ?_, hc, (h.block g rfl).2, hown, hp⟩
  have e : ps[k] = p := by rw [List.getElem?_eq_getElem hk'] at hp; injection hp
  rw [← e, List.getElem_cons_drop, List.take_append_drop]
end
theorem eqIntS_is {A B : Option Addr} {n m ca cb : Nat} {xs ys : List Int} {w : World} (hA : RI w A n xs) (hB : RI w B m ys) (hn : n ≤ 9223372036854775807) (he : xs = ys) :
    Calls Try.prog 21 #[.slice A n ca, .slice B m cb] w fun e w' => e = .returned (.bool true) ∧ Below w.heap.size w w' :=
  (eqIntS_any A B n m ca cb xs ys w hA hB hn).mono fun _ _ h => ⟨by rw [h.1, decide_eq_true he], h.2⟩
set_option maxHeartbeats 1000000 in
theorem eqIntSS_yes {A B : Option Addr} {ca cb bA bB n m : Nat} {ps qs : List RowP} {w : World} (hA : OwnS w bA A n ca ps) (hB : OwnS w bB B m cb qs) (he : snds ps = snds qs) (hs : sumL (snds ps) ≤ 1048576) (hn : n ≤ 1048576) :
    Calls Try.prog 29 #[.slice A n ca, .slice B m cb] w fun e w' => e = .returned (.bool true) ∧ Below w.heap.size w w' := by
  obtain rfl : n = m := by
    have := congrArg List.length he
    simp only [snds, List.length_map] at this
    rw [← hA.len, ← hB.len, this]
  have HE := Lib.hid he
  clear he
  go_enter Try.func29, Try.ntmps29
  go_wp2
  go_loopw [5] (fun i wr => ∃ k : Nat, k ≤ n ∧ i = .int .i64 k ∧ Up w wr) (fun i _ => n - (intOf i).toNat)
  case atStart => exact ⟨0, Nat.zero_le _, rfl, Up.refl _⟩
  case round =>
    obtain ⟨k, hk, rfl, hb⟩ := hrel
    obtain ⟨wo, rfl⟩ : ∃ wo : World, wo = wr := ⟨_, rfl⟩
    by_cases hkt : k < n
    · obtain ⟨gA, p, rfl, _, hcA, hlA, hoA, hpk⟩ := (hA.up hb).split hkt
      obtain ⟨gB, q, rfl, _, hcB, hlB, hoB, hqk⟩ := (hB.up hb).split hkt
      have hrow : p.2 = q.2 := by
        have h1 := congrArg (fun l => l[k]?) HE.out
        simp only [snds, List.getElem?_map, hpk, hqk, Option.map_some, Option.some.injEq] at h1
        exact h1
      have HR := Lib.hid hrow
      have hpl : p.2.length ≤ 9223372036854775807 := by
        have : p.2 ∈ snds ps := List.mem_map.2 ⟨p, List.mem_of_getElem? hpk, rfl⟩
        have := sumL_mem this
        omega
      clear hrow hpk hqk
      unfold rowV at hcA hcB
      go_wp2
      go_wp2
      have hV0 : Up wo wo.drew := (Up.refl _).drew
      refine wp_region_calm (S := (fun w' => Up wo w' ∧ (∀ b o, b < wo.heap.size → w'.cell? ⟨b, o, none⟩ = wo.cell? ⟨b, o, none⟩) ∧ w'.cell? (⟨gA, k, none⟩) = some (.slice p.1.1 p.2.length p.1.2) ∧ w'.cell? (⟨gB, k, none⟩) = some (.slice q.1.1 q.2.length q.1.2))) (by kernel_rfl) (by kernel_rfl) (by exact ⟨hV0, fun _ _ hb => hV0.cell hb, (hV0.cell (by first | assumption | (rw [block_of_add]; assumption))).trans (by assumption), (hV0.cell (by first | assumption | (rw [block_of_add]; assumption))).trans (by assumption)⟩) ?_
      repeat (first | (refine CalmSeq.cons undef (Calm.off (by rfl)) ?_; (try simp only [Act.put, List.setIfInBounds_toArray, List.set_cons_zero, List.set_cons_succ])) | (refine CalmSeq.cons ?_ (Calm.val (by rfl) ?_) ?_; rotate_left; (intro wC hSw; (try dsimp only at hSw); go_simp; done); (try simp only [Act.put, List.setIfInBounds_toArray, List.set_cons_zero, List.set_cons_succ])) | (refine CalmSeq.cons ?_ (Calm.val (by rfl) ?_) ?_; rotate_left; (intro wC hSw; (try dsimp only at hSw); go_simp; with_reducible rfl); (try simp only [Act.put, List.setIfInBounds_toArray, List.set_cons_zero, List.set_cons_succ])) | ((refine CalmSeq.cons ?_ (Calm.call (f := ?_) (args := ?_) (by rfl) ?_ (fun wC hSw => ?_)) ?_; rotate_left 3; (intro wC; go_simp; (refine ⟨?_, ?_⟩ <;> with_reducible rfl)); (go_at_call 21; (with_reducible refine (eqIntS_is (hoA.ri.up hSw.1) (hoB.ri.up hSw.1) hpl HR.out).mono ?_); rintro e wD ⟨rfl, hbD⟩; apply And.intro; (with_reducible rfl); (have hUD := Up.then_ hSw.1 hbD; exact ⟨hUD, fun _ _ hb => hUD.cell hb, (hUD.cell (by first | assumption | (rw [block_of_add]; assumption))).trans (by assumption), (hUD.cell (by first | assumption | (rw [block_of_add]; assumption))).trans (by assumption)⟩))); (try simp only [Act.put, List.setIfInBounds_toArray, List.set_cons_zero, List.set_cons_succ])))
      intro w2 hS2
      have hU2 : Up wo w2 := hS2.1
      clear hS2 hV0
      go_wp2
      go_roundw
      case rel => exact ⟨k + 1, by omega, by go_num, Up.then_ hb hU2⟩
      case measure => simp [intOf]; omega
    · obtain rfl : k = n := by omega
      go_wp2
      go_ret
      exact ⟨rfl, hb⟩
set_option maxHeartbeats 1000000 in
theorem markIntSS_any {A : Option Addr} {n c base : Nat} (k : Nat) {ps : List RowP} {w : World} (h : OwnS w base A n c ps) (hk : k ≤ 1048576) (hs : sumL (snds ps) ≤ 1048576) (hn : n ≤ 1048576) (hbs : base ≤ w.heap.size) :
    Calls Try.prog 32 #[.slice A n c, .int .i64 k] w fun e w' => e = .returned (.int .i64 ((k + sumL (snds ps) : Nat) : Int)) ∧ OwnS w' base A n c (marksS k ps) ∧ Below base w w' := by
  have HL := Lib.hid h.len
  go_enter Try.func32, Try.ntmps32
  go_wp2
  go_loopw [1, 5] (fun q i wr => ∃ j t : Nat, j ≤ n ∧ i = .int .i64 j ∧ q = .int .i64 (t : Nat) ∧ Hid (t = k + sumL (snds (ps.take j))) ∧ t ≤ 2097152 ∧ OwnS wr base A n c (marksS k (ps.take j) ++ ps.drop j) ∧ Below base w wr) (fun _ i _ => n - (intOf i).toNat)
  case atStart => exact ⟨0, k, Nat.zero_le _, rfl, rfl, (show Hid (k = k + sumL (snds (ps.take 0))) from rfl), by omega, by simpa [marksS] using h, Below.refl _ _⟩
  case round =>
    obtain ⟨j, t, hj, rfl, rfl, ht, ht2, hown, hb⟩ := hrel
    obtain ⟨wo, rfl⟩ : ∃ wo : World, wo = wr := ⟨_, rfl⟩
    by_cases hlt : j < n
    · have hjl : j < ps.length := by rw [HL.out]; exact hlt
      have hml : (marksS k (ps.take j)).length = j := by rw [marksS_len, List.length_take]; omega
      obtain ⟨gA, p, rfl, hsp, hcA, hlA, hoA, hpk⟩ := hown.split hlt
      have hpj : ps[j] = p := by
        rw [List.getElem?_append_right (by omega), hml, Nat.sub_self, List.getElem?_drop, Nat.add_zero, List.getElem?_eq_getElem hjl] at hpk
        injection hpk
      have hdrop : ps.drop j = p :: ps.drop (j + 1) := by rw [← hpj, List.getElem_cons_drop]
      have hown' := hown
      rw [hdrop] at hown'
      have htake : ps.take (j + 1) = ps.take j ++ [p] := by rw [List.take_succ_eq_append_getElem hjl, hpj]
      have hsum : sumL (snds (ps.take (j + 1))) = sumL (snds (ps.take j)) + p.2.length := by
        rw [htake]; simp [snds, sumL_app, sumL]
      have hall : sumL (snds ps) = sumL (snds (ps.take (j + 1))) + sumL (snds (ps.drop (j + 1))) := by
        rw [← sumL_app]; simp only [snds]; rw [← List.map_append, List.take_append_drop]
      have hpl : p.2.length ≤ 1048576 := by omega
      have HN := Lib.hid (show marksS k (ps.take (j + 1)) ++ ps.drop (j + 1) = marksS k (ps.take j) ++ (p.1, marks t p.2.length) :: ps.drop (j + 1) by
        rw [htake, marksS_app, ht.out]; simp [marksS])
      have HT := Lib.hid (show t + p.2.length = k + sumL (snds (ps.take (j + 1))) by rw [hsum, ht.out]; omega)
      have ht3 : t + p.2.length ≤ 2097152 := by rw [HT.out]; omega
      unfold rowV at hcA
      clear hsp hpk hpj hdrop htake hsum hall hjl hml
      go_wp2_with fail
      refine (markIntS_any p.1.1 p.2.length p.1.2 t base p.2 wo hoA (by omega) hpl).mono ?_
      rintro e w2 ⟨rfl, hown2, hg2⟩
      have hS := hown'.put_row (marks_len t p.2.length) hown2 hg2
      have hb2 : Below base w w2 := hb.grown hg2 (Nat.le_trans hbs hb.size) fun i hi => (hoA.block i hi).1
      clear hcA hown' hown hoA
      go_wp2
      go_roundw
      case rel => exact ⟨j + 1, t + p.2.length, by omega, by go_num, by go_num, HT.out, ht3, by rw [HN.out]; exact hS, hb2⟩
      case measure => simp [intOf]; omega
    · obtain rfl : j = n := by omega
      have HX := Lib.hid (show ps.take j = ps ∧ ps.drop j = [] from ⟨List.take_of_length_le (by rw [HL.out]; exact Nat.le_refl _), List.drop_of_length_le (by rw [HL.out]; exact Nat.le_refl _)⟩)
      rw [HX.out.1, HX.out.2, List.append_nil] at hown
      have HT := Lib.hid (show k + sumL (snds ps) = t by rw [ht.out, HX.out.1])
      go_wp2
      go_ret
      rw [HT.out]
      exact ⟨rfl, hown, hb⟩
set_option maxHeartbeats 1000000 in
theorem heldIntSS_any {A : Option Addr} {n c base : Nat} (k : Nat) {ps : List RowP} {w : World} (h : OwnS w base A n c (marksS k ps)) (hk : k ≤ 1048576) (hs : sumL (snds ps) ≤ 1048576) (hn : n ≤ 1048576) :
    Calls Try.prog 33 #[.slice A n c, .int .i64 k] w fun e w' => e = .returned (.int .i64 ((k + sumL (snds ps) : Nat) : Int)) ∧ Below w.heap.size w w' := by
  have HL := Lib.hid (show ps.length = n by rw [← h.len, marksS_len])
  go_enter Try.func33, Try.ntmps33
  go_wp2
  go_loopw [1, 5] (fun q i wr => ∃ j t : Nat, j ≤ n ∧ i = .int .i64 j ∧ q = .int .i64 (t : Nat) ∧ Hid (t = k + sumL (snds (ps.take j))) ∧ t ≤ 2097152 ∧ Up w wr) (fun _ i _ => n - (intOf i).toNat)
  case atStart => exact ⟨0, k, Nat.zero_le _, rfl, rfl, (show Hid (k = k + sumL (snds (ps.take 0))) from rfl), by omega, Up.refl _⟩
  case round =>
    obtain ⟨j, t, hj, rfl, rfl, ht, ht2, hb⟩ := hrel
    obtain ⟨wo, rfl⟩ : ∃ wo : World, wo = wr := ⟨_, rfl⟩
    by_cases hlt : j < n
    · have hjl : j < ps.length := by rw [HL.out]; exact hlt
      have hml : (marksS k (ps.take j)).length = j := by rw [marksS_len, List.length_take]; omega
      obtain ⟨gA, p', rfl, hsp, hcA, hlA, hoA, hpk⟩ := (h.up hb).split hlt
      obtain ⟨p, hpj⟩ : ∃ p, p = ps[j] := ⟨_, rfl⟩
      have hdrop : ps.drop j = p :: ps.drop (j + 1) := by rw [hpj, List.getElem_cons_drop]
      have htake : ps.take (j + 1) = ps.take j ++ [p] := by rw [List.take_succ_eq_append_getElem hjl, hpj]
      have hp' : p' = (p.1, marks t p.2.length) := by
        have e : marksS k ps = marksS k (ps.take j) ++ marksS t (ps.drop j) := by rw [ht.out, ← marksS_app, List.take_append_drop]
        rw [e, hdrop, marksS, List.getElem?_append_right (by omega), hml, Nat.sub_self] at hpk
        injection hpk with hpk
        exact hpk.symm
      have hsum : sumL (snds (ps.take (j + 1))) = sumL (snds (ps.take j)) + p.2.length := by
        rw [htake]; simp [snds, sumL_app, sumL]
      have hall : sumL (snds ps) = sumL (snds (ps.take (j + 1))) + sumL (snds (ps.drop (j + 1))) := by
        rw [← sumL_app]; simp only [snds]; rw [← List.map_append, List.take_append_drop]
      have hpl : p.2.length ≤ 1048576 := by omega
      have HT := Lib.hid (show t + p.2.length = k + sumL (snds (ps.take (j + 1))) by rw [hsum, ht.out]; omega)
      have ht3 : t + p.2.length ≤ 2097152 := by rw [HT.out]; omega
      subst hp'
      have hri : RI wo p.1.1 p.2.length (marks t p.2.length) := by have := hoA.ri; simp only [marks_len] at this; exact this
      unfold rowV at hcA
      simp only [marks_len] at hcA
      clear hsp hpk hpj hdrop htake hsum hall hjl hml hoA
      have hneg : ¬ ((t : Int) + (p.2.length : Int) < 0) := by omega
      go_wp2_with fail
      refine (heldIntS_any p.1.1 p.2.length p.1.2 t wo hri (by omega) hpl).mono ?_
      rintro e w2 ⟨rfl, hb2⟩
      have hU2 := Up.then_ hb hb2
      obtain ⟨t2, ht2e⟩ : ∃ t2, t2 = t + p.2.length := ⟨_, rfl⟩
      rw [← ht2e] at HT ht3 ⊢
      clear hcA ht2e hneg
      go_wp2
      go_roundw
      case rel => exact ⟨j + 1, t2, by omega, by go_num, rfl, HT.out, ht3, hU2⟩
      case measure => simp [intOf]; omega
    · obtain rfl : j = n := by omega
      have HX := Lib.hid (show ps.take j = ps from List.take_of_length_le (by rw [HL.out]; exact Nat.le_refl _))
      have HT := Lib.hid (show k + sumL (snds ps) = t by rw [ht.out, HX.out])
      go_wp2
      go_ret
      rw [HT.out]
      exact ⟨rfl, hb⟩
theorem totS_le {ps : List RowP} {xss : List (List Int)} (h : ps.map Prod.snd = xss) (hl : sumL xss ≤ 1048576) : sumL (snds ps) ≤ 1048576 := by rw [snds, h]; exact hl
theorem numS_le {ps : List RowP} {xss : List (List Int)} (h : ps.map Prod.snd = xss) (hl : xss.length ≤ 1048576) : ps.length ≤ 1048576 := by rw [← h] at hl; simpa using hl
/-- Rows of rows and a flag. -/
def GivesSB (xss : List (List Int)) (b : Bool) (w : World) (e : Ending) (w' : World) : Prop :=
  ∃ A c ps, ps.map Prod.snd = xss ∧ e = .returned (.tuple #[.slice A ps.length c, .bool b]) ∧ OwnS w' w.heap.size A ps.length c ps ∧ Below w.heap.size w w'
end Go.Proofs.Ytlcmfangecbdgaa
