/- Walks of chapter 11: the shortest way within a set, the program's. Walks of chapter 11: the path that avoids a vertex, the program's; triples. Walks of chapter 11: the path that avoids a vertex, the reference's. -/
import Derived.Test.YthncdjcmlpiebaaGreatQi01
import Derived.Test.YthncdjcmlpiebaaGreatQi02
import Derived.Test.YthncdjcmlpiebaaGreatQi03
import Derived.Test.YthncdjcmlpiebaaGreatQi04
import Derived.Test.YthncdjcmlpiebaaGreatQi08
import Derived.Deep.LoopGhost
import Derived.Deep.RegionHeld3
import Derived.Deep.RegionWith
namespace Go.Proofs.YthncdjcmlpiebaaGreat
open Go.RowKit
/-- The layers 0 to k. -/
def layL (Q : List Nat) (S x k : Nat) : List Nat := (List.range (k + 1)).map (lay Q S x)
set_option maxRecDepth 100000 in
theorem layL_succ (Q : List Nat) (S x k : Nat) : layL Q S x (k + 1) = layL Q S x k ++ [lay Q S x (k + 1)] := by
  unfold layL
  rw [List.range_succ, List.map_append]
  rfl
set_option maxRecDepth 100000 in
theorem layL_at {Q : List Nat} {S x k j : Nat} (h : j ≤ k) : nb (layL Q S x k) j = lay Q S x j := by
  rw [nb, layL]
  simp [List.getD, show j < k + 1 by omega]
set_option maxRecDepth 100000 in
theorem grow_less {Q : List Nat} {S x k : Nat} (h : sub x S) (h0 : lay Q S x (k + 1) ≠ 0) : grow Q S x k < grow Q S x (k + 1) := by
  refine Nat.lt_of_le_of_ne (sub_le (grow_step h k)) fun e => h0 ?_
  rw [lay, ← e]
  apply Nat.eq_of_testBit_eq
  intro i
  rw [testBit_dif, Nat.zero_testBit]
  cases (grow Q S x k).testBit i <;> rfl
set_option maxRecDepth 100000 in
theorem one_own {w : World} {g : Nat} (h : w.heap.size = g) {base : Nat} (hb : base ≤ g) (x : Int) : OwnI (w.alloc (.cells #[.int .i64 x] 3)) base (some ⟨g, 0, none⟩) 1 1 [x] := (OwnI.of_blk (L := [x]) (Blk.new_at h) rfl (by simp)).more hb
set_option maxRecDepth 100000 in
theorem implNeighbors_is {A : Option Addr} {n c s x : Nat} {Q : List Nat} {w : World} (hX : RI w A n (ints Q)) (h : GOk n Q) (hs : s < 2 ^ n) (hx : nbrs Q s = x) :
    Calls Tryz.prog 154 #[.agg #[.int .i64 n, .slice A n c], .int .i64 s] w fun e w' => e = .returned (.int .i64 (x : Nat)) ∧ Below w.heap.size w w' := by
  subst hx; exact implNeighbors_any A n c s Q w hX h hs
set_option maxRecDepth 100000 in
theorem implListOf_fst {s : Nat} {w : World} (hs : s < 128) (h0 : s ≠ 0) : Calls Tryz.prog 155 #[.int .i64 s] w fun e w' => ∃ g l d, e = .returned (.slice (some ⟨g, 0, none⟩) l d) ∧ 0 < l ∧ w'.cell? ⟨g, 0, none⟩ = some (.int .i64 (fst1 s : Nat)) ∧ Below w.heap.size w w' :=
  (implListOf_any s w hs).mono fun _ w' h => by
    obtain ⟨A, c, rfl, hown, hb⟩ := h.out
    have hp := listOf_pos hs h0
    obtain ⟨g, rfl⟩ := hown.form hp
    refine ⟨g, _, c, rfl, hp, ?_, hb⟩
    obtain ⟨_, e, _, hc⟩ := hown.ri.at_ (k := 0) hp
    injection e with e
    subst e
    rw [ints_nb] at hc
    exact hc
set_option maxRecDepth 100000 in
set_option maxHeartbeats 4000000 in
theorem shortestWay_any (A : Option Addr) (n c S a b : Nat) (Q : List Nat) (w : World) (hX : RI w A n (ints Q)) (h : GOk n Q) (hS : S < 2 ^ n) (ha : a < n) (hb : b < n) :
    Calls Tryz.prog 115 #[.agg #[.int .i64 n, .slice A n c], .int .i64 S, .int .i64 a, .int .i64 b] w (GivesIB (optL (wayOf Q n S a b)) (wayOf Q n S a b).isSome w) := by
  have hbk := Blk.new w 26 #[.int .i64 n, .slice A n c]
  have hU0 : Up w (w.alloc (.cells #[.int .i64 n, .slice A n c] 26)) := by go_grown
  have h7 := h.le
  have hS7 := h.n7 hS
  rcases Bool.eq_false_or_eq_true (S.testBit a) with ea | ea
  rotate_left
  · have H1 := Lib.hid ea
    rw [wayOf_out (.inl ea)]
    clear ea
    go_enter Tryz.func115, Tryz.ntmps115
    go_wp2_with (go_at_call 112; refine (has_eq (by omega) (by omega) H1.out).mono ?_; rintro e w' ⟨rfl, rfl⟩)
    go_ret2
    exact givesIB_none (OwnI.nil_ _ _) (Nat.le_refl _) hU0
  rcases Bool.eq_false_or_eq_true (S.testBit b) with eb | eb
  rotate_left
  · have H1 := Lib.hid ea
    have H2 := Lib.hid eb
    rw [wayOf_out (.inr eb)]
    clear ea eb
    by_cases hab : a = b
    · subst hab
      rw [H1.out] at H2
      exact absurd H2.out (by simp)
    · go_enter Tryz.func115, Tryz.ntmps115
      go_wp2_with (first | (go_at_call_of 112 (Value.int .i64 (a : Int)); refine (has_eq (by omega) (by omega) H1.out).mono ?_; rintro e w' ⟨rfl, rfl⟩) | (go_at_call_of 112 (Value.int .i64 (b : Int)); refine (has_eq (by omega) (by omega) H2.out).mono ?_; rintro e w' ⟨rfl, rfl⟩))
      go_ret2
      exact givesIB_none (OwnI.nil_ _ _) (Nat.le_refl _) hU0
  have hsub := bit_sub eb
  have H1 := Lib.hid ea
  have H2 := Lib.hid eb
  have hsh := shl_p2 (k := b) (by omega)
  have hp2b : p2 b < 128 := Nat.pow_lt_pow_right (by omega) (by omega : b < 7)
  have HNx := Lib.hid (fun k => (lay_next h hS hsub k : dif (nbrs Q (lay Q S (2 ^ b) k) &&& S) (grow Q S (2 ^ b) k) = lay Q S (2 ^ b) (k + 1)))
  have HGl := Lib.hid (fun k => grow_lay (Q := Q) hsub k)
  have HLs := Lib.hid (fun k h0 => grow_less (Q := Q) (k := k) hsub h0)
  have HGt := Lib.hid (fun k => grow_lt (Q := Q) hS hsub k)
  have HLt := Lib.hid (fun k => lay_lt (Q := Q) hS hsub k)
  have HNo := Lib.hid (fun k h0 ha' => wayOf_none (Q := Q) (n := n) (S := S) (a := a) (b := b) (k := k) h7 hS eb h0 ha')
  have HYes := Lib.hid (fun d hd => wayOf_some (Q := Q) (n := n) (S := S) (a := a) (b := b) (d := d) h7 hS ea eb hd)
  have HBit := Lib.hid (fun k v => testBit_lay (Q := Q) (k := k) (v := v) hsub)
  have HSt := Lib.hid (fun d u hu => lay_step h hS hsub (d := d) (u := u) hu)
  have HNe := Lib.hid (fun d u hu => lay_nonempty h hS hsub (d := d) (u := u) hu)
  have Hb7 := Lib.hid (fun v => h.nb7 v)
  have H128 := Lib.hid (fun s (hs : s < 2 ^ n) => h.n7 hs)
  clear ea eb hsub
  obtain ⟨aX, rfl, _, _⟩ := hX.addr h.pos
  have hbk0 := hbk
  obtain ⟨W0, hW0⟩ : ∃ W0, W0 = w.alloc (.cells #[.int .i64 n, .slice (some aX) n c] 26) := ⟨_, rfl⟩
  have hsz0 : W0.heap.size = w.heap.size + 1 := by rw [hW0]; simp
  rw [← hW0] at hbk0 hU0
  have hX0 := hX.up hU0
  have hown0 := one_own (w := W0) (g := w.heap.size + 1) hsz0 (base := w.heap.size + 1) (Nat.le_refl _) (p2 b : Int)
  have hL0 := Lib.hid (show layL Q S (2 ^ b) 0 = [p2 b] from rfl)
  have hR0 := Lib.hid (show grow Q S (2 ^ b) 0 = p2 b from rfl)
  have hBl0 : Below (w.heap.size + 1) W0 (W0.alloc (.cells #[.int .i64 (p2 b : Int)] 3)) := (Below.refl _ _).alloc (by omega) _
  go_enter Tryz.func115, Tryz.ntmps115
  go_wp2_with (first | (go_at_call_of 112 (Value.int .i64 (a : Int)); refine (has_eq (by omega) (by omega) H1.out).mono ?_; rintro e w' ⟨rfl, rfl⟩) | (go_at_call_of 112 (Value.int .i64 (b : Int)); refine (has_eq (by omega) (by omega) H2.out).mono ?_; rintro e w' ⟨rfl, rfl⟩))
  rw [hsh, ← hW0]
  have hlt0 := hbk0.lt
  clear hsh hW0 hbk
  have hP1 : p2 b + 1 ≤ 2 ^ n + 1 := by have := HGt.out 0; rw [hR0.out] at this; omega
  obtain ⟨P, hP⟩ : ∃ P, P = 2 ^ n := ⟨_, rfl⟩
  rw [← hP] at hP1
  have HP := Lib.hid hP
  clear hP
  go_loopg [10, 11] (P + 1 - p2 b) (fun g s u wr => ∃ (k : Nat) (A' : Option Addr) (c' : Nat), s = .slice A' (k + 1) c' ∧ u = .int .i64 (grow Q S (2 ^ b) k : Nat) ∧ OwnI wr (w.heap.size + 1) A' (k + 1) c' (ints (layL Q S (2 ^ b) k)) ∧ Below (w.heap.size + 1) W0 wr ∧ g + grow Q S (2 ^ b) k = P + 1 ∧ k ≤ grow Q S (2 ^ b) k ∧ Hid (∀ j, j < k → (grow Q S (2 ^ b) j).testBit a = false))
  case atStart => exact ⟨0, _, _, rfl, by rw [hR0.out], by rw [hL0.out]; exact hown0, hBl0, by rw [hR0.out]; omega, by omega, fun j hj => absurd hj (by omega)⟩
  case round =>
    clear hown0 hBl0
    obtain ⟨k, A', c', rfl, rfl, hown, hb1, hgk, hkg, hno⟩ := hrel
    obtain ⟨wo, rfl⟩ : ∃ wo : World, wo = wr := ⟨_, rfl⟩
    have hg2 := HGt.out k
    have hg7 := H128.out _ hg2
    have HS := Lib.hid hg2
    rcases Bool.eq_false_or_eq_true ((grow Q S (2 ^ b) k).testBit a) with e1 | e1
    · have hY := Lib.hid (HYes.out k ((HBit.out k a).2 ⟨e1, hno.out⟩))
      have hLa := Lib.hid ((HBit.out k a).2 ⟨e1, hno.out⟩)
      have E1 := Lib.hid e1
      obtain ⟨hlen, hkn⟩ : (a :: pathL Q S (2 ^ b) k a).length = k + 1 ∧ k < n := ⟨by rw [List.length_cons, pathL_len], hY.out.2⟩
      have HPth := Lib.hid (show [a] ++ pathL Q S (2 ^ b) k a = a :: pathL Q S (2 ^ b) k a from rfl)
      obtain ⟨R, hR⟩ : ∃ R, R = a :: pathL Q S (2 ^ b) k a := ⟨_, rfl⟩
      rw [← hR] at HPth hlen
      have HYR := Lib.hid (show wayOf Q n S a b = some R by rw [hY.out.1, hR])
      have hwo : Up w wo := hU0.trans (hb1.mono (by omega))
      have hri := hown.ri
      obtain ⟨ad, rfl, hlad, _⟩ := hri.addr (by omega)
      have hbo := hbk0.below hb1 (by omega)
      have hXo := hX.up hwo
      have hown1 := one_own (w := wo) (g := wo.heap.size) rfl (Nat.le_refl _) (a : Int)
      have hb2 : Below wo.heap.size wo (wo.alloc (.cells #[.int .i64 (a : Int)] 3)) := by go_grown
      have hw2 : IntKind.i64.wrap ((k : Int) + 1 - 2) = (k : Int) - 1 := by rw [IntKind.wrap_i64]; omega
      have hw3 : wrap64 ((k : Int) + 1 - 2) = (k : Int) - 1 := by rw [IntWalk.wrap64_in _ ⟨by omega, by omega⟩]; omega
      clear hR hno HNo HYes HBit HNx HGl HLs HGt hgk hkg hg2 HS e1 hY
      go_wp2_with (go_at_call 112; refine (has_eq (by omega) (by omega) E1.out).mono ?_; rintro e w' ⟨rfl, rfl⟩)
      have hlay : ∀ j, j ≤ k → wo.cell? (ad.add j) = some (.int .i64 (lay Q S (2 ^ b) j : Nat)) := fun j hj => by
        obtain ⟨_, e, hc⟩ := hri.nb_at (k := j) (by omega)
        injection e with e
        subst e
        rw [layL_at hj] at hc
        exact hc
      have Hlay := Lib.hid hlay
      clear hlay hri hown
      go_loopg [2, 13, 14] k (fun d va s i wr => ∃ (u : Nat) (p : List Nat) (A' : Option Addr) (c2 : Nat), va = .int .i64 u ∧ i = .int .i64 ((d : Int) - 1) ∧ s = .slice A' p.length c2 ∧ OwnI wr wo.heap.size A' p.length c2 (ints p) ∧ Below wo.heap.size wo wr ∧ p.length + d = k + 1 ∧ u < n ∧ Hid ((lay Q S (2 ^ b) d).testBit u = true) ∧ Hid (p ++ pathL Q S (2 ^ b) d u = R))
      case atStart => exact ⟨a, [a], _, _, rfl, rfl, rfl, hown1, hb2, by simp; omega, ha, hLa.out, HPth.out⟩
      case round =>
        clear hown1 hb2
        obtain ⟨u, p, A', c2, rfl, rfl, rfl, hown, hb3, hpl, hun, hlu, hpt⟩ := hrel
        obtain ⟨wi, rfl⟩ : ∃ wi : World, wi = wr := ⟨_, rfl⟩
        by_cases hd : gk = 0
        · subst hd
          have HE := Lib.hid (show p = R by have := hpt.out; rw [pathL, List.append_nil] at this; exact this)
          go_wp2
          go_ret2
          rw [HYR.out, ← HE.out]
          exact givesIB_some hown hwo.size (Up.then_ hwo hb3)
        · obtain ⟨d, rfl⟩ : ∃ d, gk = d + 1 := ⟨gk - 1, by omega⟩
          have hst := HSt.out d u hlu.out
          have hne := HNe.out d u hlu.out
          have hXi := hXo.up hb3
          have hcu := hXi.nbs hun
          have hcl := (hb3.cell (p := ad.add d) (by rw [block_of_add]; exact hlad)).trans (Hlay.out d (by omega))
          have hyi := (hbo.up hb3).two
          have hl7 : lay Q S (2 ^ b) d < 128 := H128.out _ (HLt.out d)
          have hand := i64_and7 (Hb7.out u) hl7
          have hs7 : nb Q u &&& lay Q S (2 ^ b) d < 128 := Nat.lt_of_le_of_lt Nat.and_le_left (Hb7.out u)
          have HPn := Lib.hid (show (p ++ [fst1 (nb Q u &&& lay Q S (2 ^ b) d)]) ++ pathL Q S (2 ^ b) d (fst1 (nb Q u &&& lay Q S (2 ^ b) d)) = R by
            have := hpt.out
            rw [pathL] at this
            rw [List.append_assoc]; exact this)
          have Hs1 := Lib.hid hst.1
          have hvn := hst.2.2
          obtain ⟨v, hv⟩ : ∃ v, v = fst1 (nb Q u &&& lay Q S (2 ^ b) d) := ⟨_, rfl⟩
          rw [← hv] at HPn Hs1 hvn
          obtain ⟨L, hL⟩ : ∃ L, L = lay Q S (2 ^ b) d := ⟨_, rfl⟩
          rw [← hL] at hcl hand hs7 hne hv
          obtain ⟨r, hr⟩ : ∃ r, r = nb Q u := ⟨_, rfl⟩
          rw [← hr] at hcu hand hs7 hne hv
          obtain ⟨s, hs⟩ : ∃ s, s = r &&& L := ⟨_, rfl⟩
          rw [← hs] at hand hs7 hne hv
          have HV := Lib.hid hv
          have hi0 : ((d + 1 : Nat) : Int) - 1 = (d : Int) := by omega
          have hge : decide ((0 : Int) ≤ (d : Int)) = true := decide_eq_true (by omega)
          have hdk : d < k + 1 := by omega
          rw [hi0]
          clear hst hlu hpt hv hL hr hs hi0
          go_wp2_with fail
          go_region_with (refine ((implListOf_fst hs7 hne).mono fun _ _ h => h).mono ?_; rintro e w4 ⟨g4, l4, d4, rfl, hl4, hc4, hb4⟩; rw [← HV.out] at hc4)
          all_goals
            have hU4 : Up wi w4 := Up.then_ (by go_grown) hb4
            have hown4 := hown.up hU4
            have hb5 : Below wo.heap.size wo w4 := hb3.trans (hU4.mono hb3.size)
            have hsz5 := hb5.size
            have hcell := (Blk.new w4 3 #[.int .i64 (v : Int)]).one
            have hpk : p.length ≤ 128 := by omega
            go_wp2_with (at_builtin; refine wpList_push rfl (.tmp 77) (.tmp 79) rfl (v : Int) rfl (hown4.alloc _) ⟨w4.heap.size, 0, none⟩ rfl hcell (by omega) (by simp; omega) ?_; intro A7 c7 w7 hown7 hb7 hg7)
            go_roundg d
            case measure => omega
            case rel => exact ⟨v, p ++ [v], A7, c7, rfl, rfl, by rw [← push_len], hown7.cast push_len (by rw [ints_snoc]), (hb5.alloc hsz5 _).trans hb7, by rw [← push_len]; omega, hvn, Hs1.out, HPn.out⟩
    · have HN1 := Lib.hid (HNx.out k)
      have HG1 := Lib.hid (HGl.out k)
      have HL1 := Lib.hid (HLs.out k)
      have HO1 := Lib.hid (HNo.out k)
      have HLt1 := Lib.hid (HLt.out k)
      have hno2 := Lib.hid (show ∀ j, j < k + 1 → (grow Q S (2 ^ b) j).testBit a = false from fun j hj => by
        rcases Nat.lt_succ_iff_lt_or_eq.1 hj with h' | rfl
        · exact hno.out j h'
        · exact e1)
      have E1 := Lib.hid e1
      have hg3 := HGt.out (k + 1)
      rw [← HP.out] at hg3
      have hla : nb (layL Q S (2 ^ b) k) k = lay Q S (2 ^ b) k := layL_at (Nat.le_refl _)
      have hnx7 : nbrs Q (lay Q S (2 ^ b) k) < 128 := H128.out _ (nbrs_lt h _)
      have hland := i64_and7 hnx7 hS7
      have hdif := i64_dif7 (a := nbrs Q (lay Q S (2 ^ b) k) &&& S) (b := grow Q S (2 ^ b) k) (Nat.lt_of_le_of_lt Nat.and_le_right hS7) hg7
      rw [HN1.out] at hdif
      have hn7 : lay Q S (2 ^ b) (k + 1) < 128 := H128.out _ (HLt.out (k + 1))
      have hor := i64_or7 hg7 hn7
      rw [HG1.out] at hor
      have hLS := Lib.hid (layL_succ Q S (2 ^ b) k)
      have hk128 : k < 128 := by omega
      obtain ⟨G, hG⟩ : ∃ G, G = grow Q S (2 ^ b) k := ⟨_, rfl⟩
      rw [← hG] at E1 HG1 HL1 HO1 hdif hor hgk hkg hg7 ⊢
      obtain ⟨G2, hG2⟩ : ∃ G2, G2 = grow Q S (2 ^ b) (k + 1) := ⟨_, rfl⟩
      rw [← hG2] at HL1 hor hg3
      obtain ⟨L2, hL2⟩ : ∃ L2, L2 = lay Q S (2 ^ b) (k + 1) := ⟨_, rfl⟩
      rw [← hL2] at HL1 HO1 hdif hor hn7 hLS
      obtain ⟨L, hL⟩ : ∃ L, L = lay Q S (2 ^ b) k := ⟨_, rfl⟩
      rw [← hL] at hla hnx7 hland hdif HLt1
      obtain ⟨x, hx⟩ : ∃ x, x = nbrs Q L := ⟨_, rfl⟩
      have HX := Lib.hid hx.symm
      rw [← hx] at hland hdif hnx7
      have HG2e := Lib.hid hG2
      clear e1 hG hG2 hL2 hL hx HN1 HG1 hg2
      have hri := hown.ri
      obtain ⟨ad, rfl, hcl⟩ := hri.nb_at (k := k) (by omega)
      rw [hla] at hcl
      have hlad : ad.block < wo.heap.size := by obtain ⟨_, e, h1, _⟩ := hri.addr (by omega); injection e with e; subst e; exact h1
      have hbo := hbk0.below hb1 (by omega)
      have hyo := hbo.two
      have hlo := hbo.lt
      have hwo : Up w wo := hU0.trans (hb1.mono (by omega))
      have hXo := hX.up hwo
      obtain ⟨m1, hm1⟩ : ∃ m1, m1 = k + 1 := ⟨_, rfl⟩
      have hwk : IntKind.i64.wrap ((m1 : Int) - 1) = (k : Int) := by rw [IntKind.wrap_i64]; omega
      have hwk2 : wrap64 ((m1 : Int) - 1) = (k : Int) := by rw [IntWalk.wrap64_in _ ⟨by omega, by omega⟩]; omega
      have hkm : k < m1 := by omega
      have hm129 : m1 ≤ 129 := by omega
      have Hm1 := Lib.hid hm1
      rw [← hm1] at hown hri ⊢
      clear hm1
      by_cases h0 : L2 = 0
      · have HN := Lib.hid (HO1.out h0 E1.out)
        subst h0
        clear hor HO1 HL1
        go_wp2_with (go_at_call 112; refine (has_eq (by omega) (by omega) E1.out).mono ?_; rintro e w' ⟨rfl, rfl⟩)
        go_wp2
        have hV0 : Up wo wo.drew := (Up.refl _).drew
        refine wp_region_calm (S := (fun w' => Up wo w' ∧ (∀ b o, b < wo.heap.size → w'.cell? ⟨b, o, none⟩ = wo.cell? ⟨b, o, none⟩) ∧ w'.cell? (ad.add k) = some (.int .i64 (L : Nat)))) (by kernel_rfl) (by kernel_rfl) (by exact ⟨hV0, fun _ _ hb => hV0.cell hb, (hV0.cell (by first | assumption | (rw [block_of_add]; assumption))).trans (by assumption)⟩) ?_
        repeat (first | (refine CalmSeq.cons undef (Calm.off (by rfl)) ?_; (try simp only [Act.put, List.setIfInBounds_toArray, List.set_cons_zero, List.set_cons_succ])) | (refine CalmSeq.cons ?_ (Calm.val (by rfl) ?_) ?_; rotate_left; (intro wC hSw; (try dsimp only at hSw); go_simp; done); (try simp only [Act.put, List.setIfInBounds_toArray, List.set_cons_zero, List.set_cons_succ])) | (refine CalmSeq.cons ?_ (Calm.val (by rfl) ?_) ?_; rotate_left; (intro wC hSw; (try dsimp only at hSw); go_simp; with_reducible rfl); (try simp only [Act.put, List.setIfInBounds_toArray, List.set_cons_zero, List.set_cons_succ])) | ((refine CalmSeq.cons ?_ (Calm.call (f := ?_) (args := ?_) (by rfl) ?_ (fun wC hSw => ?_)) ?_; rotate_left 3; (intro wC; go_simp; (refine ⟨?_, ?_⟩ <;> with_reducible rfl)); (go_at_call 154; (with_reducible refine (implNeighbors_is (hXo.up hSw.1) h HLt1.out HX.out).mono ?_); rintro e wD ⟨rfl, hbD⟩; apply And.intro; (with_reducible rfl); (have hUD := Up.then_ hSw.1 hbD; exact ⟨hUD, fun _ _ hb => hUD.cell hb, (hUD.cell (by first | assumption | (rw [block_of_add]; assumption))).trans (by assumption)⟩))); (try simp only [Act.put, List.setIfInBounds_toArray, List.set_cons_zero, List.set_cons_succ])))
        intro w3 hS3
        have hU3 : Up wo w3 := hS3.1
        clear hS3 hV0
        go_wp2
        go_ret2
        rw [HN.out]
        exact givesIB_none (OwnI.nil_ _ _) (Nat.le_refl _) (Up.then_ hwo hU3)
      · have hGl := HL1.out h0
        have hne : ((L2 : Int) == 0) = false := by rw [beq_eq_false_iff_ne]; omega
        clear HO1 HL1
        go_wp2_with (go_at_call 112; refine (has_eq (by omega) (by omega) E1.out).mono ?_; rintro e w' ⟨rfl, rfl⟩)
        go_wp2
        have hV0 : Up wo wo.drew := (Up.refl _).drew
        refine wp_region_calm (S := (fun w' => Up wo w' ∧ (∀ b o, b < wo.heap.size → w'.cell? ⟨b, o, none⟩ = wo.cell? ⟨b, o, none⟩) ∧ w'.cell? (ad.add k) = some (.int .i64 (L : Nat)))) (by kernel_rfl) (by kernel_rfl) (by exact ⟨hV0, fun _ _ hb => hV0.cell hb, (hV0.cell (by first | assumption | (rw [block_of_add]; assumption))).trans (by assumption)⟩) ?_
        repeat (first | (refine CalmSeq.cons undef (Calm.off (by rfl)) ?_; (try simp only [Act.put, List.setIfInBounds_toArray, List.set_cons_zero, List.set_cons_succ])) | (refine CalmSeq.cons ?_ (Calm.val (by rfl) ?_) ?_; rotate_left; (intro wC hSw; (try dsimp only at hSw); go_simp; done); (try simp only [Act.put, List.setIfInBounds_toArray, List.set_cons_zero, List.set_cons_succ])) | (refine CalmSeq.cons ?_ (Calm.val (by rfl) ?_) ?_; rotate_left; (intro wC hSw; (try dsimp only at hSw); go_simp; with_reducible rfl); (try simp only [Act.put, List.setIfInBounds_toArray, List.set_cons_zero, List.set_cons_succ])) | ((refine CalmSeq.cons ?_ (Calm.call (f := ?_) (args := ?_) (by rfl) ?_ (fun wC hSw => ?_)) ?_; rotate_left 3; (intro wC; go_simp; (refine ⟨?_, ?_⟩ <;> with_reducible rfl)); (go_at_call 154; (with_reducible refine (implNeighbors_is (hXo.up hSw.1) h HLt1.out HX.out).mono ?_); rintro e wD ⟨rfl, hbD⟩; apply And.intro; (with_reducible rfl); (have hUD := Up.then_ hSw.1 hbD; exact ⟨hUD, fun _ _ hb => hUD.cell hb, (hUD.cell (by first | assumption | (rw [block_of_add]; assumption))).trans (by assumption)⟩))); (try simp only [Act.put, List.setIfInBounds_toArray, List.set_cons_zero, List.set_cons_succ])))
        intro w3 hS3
        have hU3 : Up wo w3 := hS3.1
        clear hS3 hV0
        replace hown := hown.up hU3
        have hcell := (Blk.new w3 3 #[.int .i64 (L2 : Int)]).one
        have hb3 : Below (w.heap.size + 1) W0 w3 := hb1.trans (hU3.mono (by have := hb1.size; omega))
        have hsz3 : w.heap.size + 1 ≤ w3.heap.size := by have := hb3.size; omega
        go_wp2_with (at_builtin; refine wpList_push rfl (.tmp 48) (.tmp 50) rfl (L2 : Int) rfl (hown.alloc _) ⟨w3.heap.size, 0, none⟩ rfl hcell (by omega) (by simp; omega) ?_; intro A7 c7 w7 hown7 hb7 hg7)
        go_roundg (P + 1 - G2)
        case measure => omega
        case rel => exact ⟨k + 1, A7, c7, by rw [← Hm1.out], by rw [← HG2e.out], hown7.cast (by rw [← Hm1.out]) (by rw [hLS.out, ints_snoc]), (hb3.alloc (by omega) _).trans hb7, by rw [← HG2e.out]; omega, by rw [← HG2e.out]; omega, hno2.out⟩
end Go.Proofs.YthncdjcmlpiebaaGreat
namespace Go.Proofs.YthncdjcmlpiebaaGreat
open Go.RowKit
set_option maxRecDepth 100000 in
theorem avoid_cases (N : Int) (X : List Int) (a b c : Int) : (avoidOf N X a b c = none ∧ (isGraph N X = false ∨ isGraph N X = true ∧ ¬ ((0 ≤ a ∧ a < N) ∧ (0 ≤ b ∧ b < N) ∧ 0 ≤ c ∧ c < N))) ∨
    ∃ (n i j k : Nat) (Q : List Nat), N = n ∧ X = ints Q ∧ a = i ∧ b = j ∧ c = k ∧ GOk n Q ∧ i < n ∧ j < n ∧ k < n := by
  rcases isGraph_cases N X with h | ⟨n, Q, rfl, rfl, h⟩
  · exact .inl ⟨avoidOf_no h, .inl h⟩
  · by_cases hs : (0 ≤ a ∧ a < (n : Int)) ∧ (0 ≤ b ∧ b < (n : Int)) ∧ 0 ≤ c ∧ c < (n : Int)
    · exact .inr ⟨n, a.toNat, b.toNat, c.toNat, Q, rfl, rfl, by omega, by omega, by omega, h, by omega, by omega, by omega⟩
    · exact .inl ⟨avoidOf_out hs, .inr ⟨h.is, hs⟩⟩
set_option maxRecDepth 100000 in
theorem allIn3 (N a b c : Int) : allIn N [a, b, c] = decide ((0 ≤ a ∧ a < N) ∧ (0 ≤ b ∧ b < N) ∧ 0 ≤ c ∧ c < N) := by
  rw [Bool.eq_iff_iff, decide_eq_true_eq]
  simp [allIn]
set_option maxRecDepth 100000 in
theorem lit3_ri {w : World} {g : Nat} (h : w.heap.size = g) (a b c : Int) : RI (w.alloc (.cells #[.int .i64 a, .int .i64 b, .int .i64 c] 3)) (some ⟨g, 0, none⟩) 3 [a, b, c] := by
  subst h
  exact (Blk.new w 3 #[.int .i64 a, .int .i64 b, .int .i64 c]).ri (xs := [a, b, c]) rfl
set_option maxRecDepth 100000 in
set_option maxHeartbeats 2000000 in
theorem implAvoidingPath_any (N a b c : Int) (A : Option Addr) (n d : Nat) (X : List Int) (w : World) (hX : RI w A n X) (hn : n ≤ 9223372036854775807) :
    Calls Tryz.prog 56 #[.agg #[.int .i64 N, .slice A n d], .int .i64 a, .int .i64 b, .int .i64 c] w (GivesIB (optL (avoidOf N X a b c)) (avoidOf N X a b c).isSome w) := by
  have hbk := Blk.new w 26 #[.int .i64 N, .slice A n d]
  have hl3 := lit3_ri (w := w.alloc (.cells #[.int .i64 N, .slice A n d] 26)) (g := w.heap.size + 1) (by simp) a b c
  have hbk2 := hbk.alloc (.cells #[.int .i64 a, .int .i64 b, .int .i64 c] 3)
  have hyb := hbk2.two
  have hU1 : Up w ((w.alloc (.cells #[.int .i64 N, .slice A n d] 26)).alloc (.cells #[.int .i64 a, .int .i64 b, .int .i64 c] 3)) := by go_grown
  rcases avoid_cases N X a b c with ⟨h0, hc⟩ | ⟨m, i, j, k, Q, rfl, rfl, rfl, rfl, rfl, h, hi, hj, hk⟩
  · have hv : (isGraph N X && allIn N [a, b, c]) = false := by
      rcases hc with e | ⟨e1, e2⟩
      · rw [e]; rfl
      · rw [e1, allIn3, decide_eq_false e2]; rfl
    have Hv := Lib.hid hv
    rw [h0]
    clear hv hc h0
    go_enter Tryz.func56, Tryz.ntmps56
    go_wp2_with (go_at_call 114; refine (isVertex_is (hX.up hU1) hl3 hn (by omega) Hv.out).mono ?_; rintro e w2 ⟨rfl, hb2⟩)
    go_ret2
    exact givesIB_none (OwnI.nil_ _ _) (Nat.le_refl _) (Up.then_ hU1 hb2)
  · obtain rfl : n = m := by rw [← hX.1, ints_len, h.len]
    have hv : (isGraph n (ints Q) && allIn n [(i : Int), (j : Int), (k : Int)]) = true := by rw [h.is, allIn3, decide_eq_true ⟨⟨by omega, by omega⟩, ⟨by omega, by omega⟩, by omega, by omega⟩]; rfl
    have Hv := Lib.hid hv
    rw [avoidOf_ok h hi hj hk]
    have h7 := h.le
    have hsh := shl_p2 (k := k) (by omega)
    have hshI : IntKind.i64.wrap ((2 : Int) ^ k) = ((p2 k : Nat) : Int) := by rw [IntWalk.i64_left]; exact hsh
    have hpk : p2 k < 128 := Nat.pow_lt_pow_right (by omega) (by omega : k < 7)
    have hpn := p2_le h7
    have hpp := p2_pos n
    have hd1 := i64_dif7 (a := p2 n - 1) (b := nb Q k) (by omega) (h.nb7 k)
    have hd7 : dif (p2 n - 1) (nb Q k) < 128 := Nat.lt_of_le_of_lt (dif_le _ _) (by omega)
    have hd2 := i64_dif7 (a := dif (p2 n - 1) (nb Q k)) (b := p2 k) hd7 hpk
    have HS := Lib.hid (show dif (dif (p2 n - 1) (nb Q k)) (p2 k) = awayS Q n k from rfl)
    have HSl := Lib.hid (awayS_lt Q n k)
    rw [HS.out] at hd2
    obtain ⟨S, hS⟩ : ∃ S, S = awayS Q n k := ⟨_, rfl⟩
    rw [← hS] at hd2 HSl ⊢
    obtain ⟨r, hr⟩ : ∃ r, r = nb Q k := ⟨_, rfl⟩
    rw [← hr] at hd1 hd2 hd7
    obtain ⟨D, hD⟩ : ∃ D, D = dif (p2 n - 1) r := ⟨_, rfl⟩
    rw [← hD] at hd1 hd2 hd7
    have Hr := Lib.hid hr
    clear hv HS hS hr hD hl3
    have hl3 := lit3_ri (w := w.alloc (.cells #[.int .i64 (n : Int), .slice A n d] 26)) (g := w.heap.size + 1) (by simp) (i : Int) (j : Int) (k : Int)
    obtain ⟨aX, rfl, _, _⟩ := hX.addr h.pos
    go_enter Tryz.func56, Tryz.ntmps56
    go_wp2_with (go_at_call 114; refine (isVertex_is (hX.up hU1) hl3 hn (by omega) Hv.out).mono ?_; rintro e w2 ⟨rfl, hb2⟩)
    have hU2 := Up.then_ hU1 hb2
    have hX2 := hX.up hU2
    have hbk3 := hbk2.up hb2
    have hyb3 := hbk3.two
    have hlb3 := hbk3.lt
    have hck := hX2.nbs hk
    rw [← Hr.out] at hck
    have habs : aX.block < w2.heap.size := by obtain ⟨_, e, h1, _⟩ := hX2.addr h.pos; injection e with e; subst e; exact h1
    clear hyb hl3
    go_wp2
    have hV0 : Up w2 w2.drew := (Up.refl _).drew
    go_region_held3 (fun w' => Up w2 w' ∧ (∀ b o, b < w2.heap.size → w'.cell? ⟨b, o, none⟩ = w2.cell? ⟨b, o, none⟩) ∧ w'.cell? (aX.add k) = some (.int .i64 (r : Nat))) (first | exact (by exact ⟨hV2, fun _ _ hb => hV2.cell hb, (hV2.cell (by first | assumption | (rw [block_of_add]; assumption))).trans (by assumption)⟩) | exact (by exact ⟨hV1, fun _ _ hb => hV1.cell hb, (hV1.cell (by first | assumption | (rw [block_of_add]; assumption))).trans (by assumption)⟩) | exact (by exact ⟨hV0, fun _ _ hb => hV0.cell hb, (hV0.cell (by first | assumption | (rw [block_of_add]; assumption))).trans (by assumption)⟩)) (first | (go_at_call 116; refine (all_any n (some aX) d n _ h7).mono ?_; rintro e w40 ⟨rfl, hb40⟩; have hV1 := Up.then_ hV0 hb40) | (go_at_call 115; refine (shortestWay_any (some aX) n d S i j Q _ (hX2.up hV1) h HSl.out hi hj).mono ?_; rintro e w41 ⟨A3, c3, rfl, hown3, hb41⟩; have hV2 := Up.then_ hV1 hb41))
    have hU4 := hV2
    go_wp2
    go_ret2
    exact ⟨A3, c3, rfl, hown3.more (Nat.le_trans hU2.size (by have := hb40.size; simpa using this)), Up.then_ hU2 hU4⟩
end Go.Proofs.YthncdjcmlpiebaaGreat
namespace Go.Proofs.YthncdjcmlpiebaaGreat
open Go.RowKit
/-- Where each vertex was met so far: the first v are up to date with step k. -/
def farM (Q : List Nat) (S x n k v : Nat) : List Int := (List.range n).map fun u => if u < v then farK Q S x u (k + 1) else farK Q S x u k
set_option maxRecDepth 100000 in
theorem farM_at {Q : List Nat} {S x n k v u : Nat} (h : u < n) : (farM Q S x n k v).getD u 0 = if u < v then farK Q S x u (k + 1) else farK Q S x u k := by simp [farM, List.getD, h]
set_option maxRecDepth 100000 in
theorem farM_next (Q : List Nat) (S x n k : Nat) : farM Q S x n k n = farM Q S x n (k + 1) 0 := by
  apply List.map_congr_left
  intro u hu
  rw [if_pos (List.mem_range.1 hu), if_neg (by omega)]
set_option maxRecDepth 100000 in
theorem farM_start (Q : List Nat) (S x n : Nat) : farM Q S x n 0 0 = List.replicate n (-1) := by
  apply List.ext_getElem
  · simp [farM]
  · intro i h1 h2
    simp [farM, farK]
set_option maxRecDepth 100000 in
theorem farM_keep {Q : List Nat} {S x n k v : Nat} (h : farK Q S x v (k + 1) = farK Q S x v k) : farM Q S x n k (v + 1) = farM Q S x n k v := by
  apply List.map_congr_left
  intro u _
  by_cases e : u = v
  · subst e
    rw [if_pos (by omega), if_neg (by omega), h]
  · by_cases h1 : u < v
    · rw [if_pos h1, if_pos (by omega)]
    · rw [if_neg h1, if_neg (by omega)]
set_option maxRecDepth 100000 in
theorem farM_put {Q : List Nat} {S x n k v : Nat} {z : Int} (h : farK Q S x v (k + 1) = z) (_hv : v < n) : (farM Q S x n k v).set v z = farM Q S x n k (v + 1) := by
  apply List.ext_getElem
  · simp [farM]
  · intro i h1 h2
    rw [List.getElem_set]
    simp only [farM, List.getElem_map, List.getElem_range]
    by_cases e : v = i
    · subst e
      rw [if_pos rfl, if_pos (by omega), h]
    · rw [if_neg e]
      by_cases h1 : i < v
      · rw [if_pos h1, if_pos (by omega)]
      · rw [if_neg h1, if_neg (by omega)]
set_option maxRecDepth 100000 in
theorem farM_end {Q : List Nat} {S x n u : Nat} (h : u < n) : (farM Q S x n n 0).getD u 0 = farK Q S x u n := by rw [farM_at h, if_neg (by omega)]
set_option maxRecDepth 100000 in
theorem givesIB_len {q : List Nat} {m : Nat} {w w' : World} {A : Option Addr} {c base : Nat} (hm : m = q.length) (h : OwnI w' base A m c (ints q)) (hbase : w.heap.size ≤ base) (hb : Below w.heap.size w w') : GivesIB (ints q) true w (.returned (.tuple #[.slice A m c, .bool true])) w' := by
  subst hm; exact givesIB_some h hbase hb
set_option maxRecDepth 100000 in
theorem specAround_is {A : Option Addr} {n c s x : Nat} {Q : List Nat} {w : World} (hX : RI w A n (ints Q)) (h : GOk n Q) (hs : s < 2 ^ n) (hx : around Q s = x) :
    Calls Tryz.prog 117 #[.agg #[.int .i64 n, .slice A n c], .int .i64 s] w fun e w' => e = .returned (.int .i64 (x : Nat)) ∧ Below w.heap.size w w' := by
  subst hx; exact specAround_any A n c s Q w hX h hs
set_option maxRecDepth 100000 in
set_option maxHeartbeats 4000000 in
theorem specAvoidingPath_any (N a b c : Int) (A : Option Addr) (n d : Nat) (X : List Int) (w : World) (hX : RI w A n X) (hn : n ≤ 9223372036854775807) :
    Calls Tryz.prog 57 #[.agg #[.int .i64 N, .slice A n d], .int .i64 a, .int .i64 b, .int .i64 c] w (GivesIB (optL (avoidOf N X a b c)) (avoidOf N X a b c).isSome w) := by
  have hbk := Blk.new w 26 #[.int .i64 N, .slice A n d]
  rcases avoid_cases N X a b c with ⟨h0, hc⟩ | ⟨m, i, j, k, Q, rfl, rfl, rfl, rfl, rfl, h, hi, hj, hk⟩
  · rw [h0]
    clear h0
    rcases hc with hg | ⟨hg, hout⟩
    · have H1 := Lib.hid hg
      clear hg
      go_enter Tryz.func57, Tryz.ntmps57
      go_wp2_with fail
      refine (specIsGraph_is (hX.up (by go_grown)) hn H1.out).mono ?_
      rintro e w1 ⟨rfl, hb1⟩
      have hU1 : Up w w1 := Up.then_ (by go_grown) hb1
      have hown0 := OwnI.made (base := w1.heap.size) w1 (Nat.le_refl _)
      have hww := hU1.alloc hU1.size (.cells #[] 3)
      go_wp2
      go_ret2
      exact givesIB_none hown0 hU1.size hww
    · have H1 := Lib.hid hg
      obtain ⟨m, Q, rfl, rfl, h⟩ := isGraph_ok hg
      have h7 := h.le
      have h1 := h.pos
      have hsub : wrap64 ((m : Int) - 1) = (m : Int) - 1 := IntWalk.wrap64_in _ ⟨by omega, by omega⟩
      clear hg
      by_cases pa : 0 ≤ a ∧ a ≤ (m : Int) - 1
      rotate_left
      · go_enter Tryz.func57, Tryz.ntmps57
        go_wp2_with fail
        refine (specIsGraph_is (hX.up (by go_grown)) hn H1.out).mono ?_
        rintro e w1 ⟨rfl, hb1⟩
        have hU1 : Up w w1 := Up.then_ (by go_grown) hb1
        have hyb1 := (hbk.up hb1).two
        have hown0 := OwnI.made (base := w1.heap.size) w1 (Nat.le_refl _)
        have hww := hU1.alloc hU1.size (.cells #[] 3)
        go_wp2_with (go_at_call 72; refine ((l1In_no _ _ _ _ pa).mono fun _ _ h => And.intro h.1 h.2.symm).mono ?_; rintro e w' ⟨rfl, rfl⟩)
        go_ret2
        exact givesIB_none hown0 hU1.size hww
      · by_cases pb : 0 ≤ b ∧ b ≤ (m : Int) - 1
        rotate_left
        · have hab : a ≠ b := fun e => pb (e ▸ pa)
          go_enter Tryz.func57, Tryz.ntmps57
          go_wp2_with fail
          refine (specIsGraph_is (hX.up (by go_grown)) hn H1.out).mono ?_
          rintro e w1 ⟨rfl, hb1⟩
          have hU1 : Up w w1 := Up.then_ (by go_grown) hb1
          have hyb1 := (hbk.up hb1).two
          have hown0 := OwnI.made (base := w1.heap.size) w1 (Nat.le_refl _)
          have hww := hU1.alloc hU1.size (.cells #[] 3)
          go_wp2_with (first | (go_at_call_of 72 (Value.int .i64 a); refine (l1In_eq pa).mono ?_; rintro e w' ⟨rfl, rfl⟩) | (go_at_call_of 72 (Value.int .i64 b); refine ((l1In_no _ _ _ _ pb).mono fun _ _ h => And.intro h.1 h.2.symm).mono ?_; rintro e w' ⟨rfl, rfl⟩))
          go_ret2
          exact givesIB_none hown0 hU1.size hww
        · have pc : ¬ (0 ≤ c ∧ c ≤ (m : Int) - 1) := fun pc => hout ⟨⟨pa.1, by omega⟩, ⟨pb.1, by omega⟩, pc.1, by omega⟩
          go_enter Tryz.func57, Tryz.ntmps57
          go_wp2_with fail
          refine (specIsGraph_is (hX.up (by go_grown)) hn H1.out).mono ?_
          rintro e w1 ⟨rfl, hb1⟩
          have hU1 : Up w w1 := Up.then_ (by go_grown) hb1
          have hyb1 := (hbk.up hb1).two
          have hown0 := OwnI.made (base := w1.heap.size) w1 (Nat.le_refl _)
          have hww := hU1.alloc hU1.size (.cells #[] 3)
          go_wp2_with (first | (go_at_call_of 72 (Value.int .i64 a); refine (l1In_eq pa).mono ?_; rintro e w' ⟨rfl, rfl⟩) | (go_at_call_of 72 (Value.int .i64 b); refine (l1In_eq pb).mono ?_; rintro e w' ⟨rfl, rfl⟩) | (go_at_call_of 72 (Value.int .i64 c); refine ((l1In_no _ _ _ _ pc).mono fun _ _ h => And.intro h.1 h.2.symm).mono ?_; rintro e w' ⟨rfl, rfl⟩))
          go_ret2
          exact givesIB_none hown0 hU1.size hww
  · obtain rfl : n = m := by rw [← hX.1, ints_len, h.len]
    rw [avoidOf_ok h hi hj hk]
    have h7 := h.le
    have h1 := h.pos
    have H1 := Lib.hid h.is
    have hsub : wrap64 ((n : Int) - 1) = (n : Int) - 1 := IntWalk.wrap64_in _ ⟨by omega, by omega⟩
    have pa : 0 ≤ (i : Int) ∧ (i : Int) ≤ (n : Int) - 1 := ⟨by omega, by omega⟩
    have pb : 0 ≤ (j : Int) ∧ (j : Int) ≤ (n : Int) - 1 := ⟨by omega, by omega⟩
    have pc : 0 ≤ (k : Int) ∧ (k : Int) ≤ (n : Int) - 1 := ⟨by omega, by omega⟩
    have hsk := shl_p2 (k := k) (by omega)
    have hsn := shl_p2 (k := n) (by omega)
    have hskI : IntKind.i64.wrap ((2 : Int) ^ k) = ((p2 k : Nat) : Int) := by rw [IntWalk.i64_left]; exact hsk
    have hsnI : IntKind.i64.wrap ((2 : Int) ^ n) = ((p2 n : Nat) : Int) := by rw [IntWalk.i64_left]; exact hsn
    have hpn := p2_le h7
    have hpk : p2 k < 2 ^ n := Nat.pow_lt_pow_right (by omega) hk
    have haw := away_ref h hk
    have hSl := awayS_lt Q n k
    have hS7 := h.n7 hSl
    obtain ⟨S, hS⟩ : ∃ S, S = awayS Q n k := ⟨_, rfl⟩
    rw [← hS] at haw hSl hS7 ⊢
    obtain ⟨R0, hR0⟩ : ∃ R0, R0 = around Q (2 ^ k) := ⟨_, rfl⟩
    have HR0 := Lib.hid (show around Q (p2 k) = R0 from hR0.symm)
    rw [← hR0] at haw
    have haw2 : S + R0 = p2 n - 1 := haw
    have hp1 := p2_pos n
    have hsu1 : wrap64 ((p2 n : Int) - 1) = (p2 n : Int) - 1 := IntWalk.wrap64_in _ ⟨by omega, by omega⟩
    have hsu2 : wrap64 ((p2 n : Int) - 1 - (R0 : Int)) = (S : Int) := by rw [IntWalk.wrap64_in _ ⟨by omega, by omega⟩]; omega
    have hsu1I : IntKind.i64.wrap ((p2 n : Int) - 1) = (p2 n : Int) - 1 := by rw [IntKind.wrap_i64]; omega
    have hsu2I : IntKind.i64.wrap ((p2 n : Int) - 1 - (R0 : Int)) = (S : Int) := by rw [IntKind.wrap_i64]; omega
    clear hS hR0 haw haw2
    obtain ⟨aX, rfl, _, _⟩ := hX.addr h.pos
    go_enter Tryz.func57, Tryz.ntmps57
    go_wp2_with fail
    refine (specIsGraph_is (hX.up (by go_grown)) hn H1.out).mono ?_
    rintro e w1 ⟨rfl, hb1⟩
    have hU1 : Up w w1 := Up.then_ (by go_grown) hb1
    replace hX := hX.up hU1
    have hbk1 := hbk.up hb1
    have hyb1 := hbk1.two
    have hlb1 := hbk1.lt
    go_wp2_with (first | (go_at_call_of 72 (Value.int .i64 (i : Int)); refine (l1In_eq pa).mono ?_; rintro e w' ⟨rfl, rfl⟩) | (go_at_call_of 72 (Value.int .i64 (j : Int)); refine (l1In_eq pb).mono ?_; rintro e w' ⟨rfl, rfl⟩) | (go_at_call_of 72 (Value.int .i64 (k : Int)); refine (l1In_eq pc).mono ?_; rintro e w' ⟨rfl, rfl⟩))
    go_wp2
    have hV0 : Up w1 w1.drew := (Up.refl _).drew
    refine wp_region_calm (S := (fun w' => Up w1 w' ∧ (∀ b o, b < w1.heap.size → w'.cell? ⟨b, o, none⟩ = w1.cell? ⟨b, o, none⟩))) (by kernel_rfl) (by kernel_rfl) (by exact ⟨hV0, fun _ _ hb => hV0.cell hb⟩) ?_
    repeat (first | (refine CalmSeq.cons undef (Calm.off (by rfl)) ?_; (try simp only [Act.put, List.setIfInBounds_toArray, List.set_cons_zero, List.set_cons_succ])) | (refine CalmSeq.cons ?_ (Calm.val (by rfl) ?_) ?_; rotate_left; (intro wC hSw; (try dsimp only at hSw); go_simp; done); (try simp only [Act.put, List.setIfInBounds_toArray, List.set_cons_zero, List.set_cons_succ])) | (refine CalmSeq.cons ?_ (Calm.val (by rfl) ?_) ?_; rotate_left; (intro wC hSw; (try dsimp only at hSw); go_simp; with_reducible rfl); (try simp only [Act.put, List.setIfInBounds_toArray, List.set_cons_zero, List.set_cons_succ])) | ((refine CalmSeq.cons ?_ (Calm.call (f := ?_) (args := ?_) (by rfl) ?_ (fun wC hSw => ?_)) ?_; rotate_left 3; (intro wC; go_simp; (refine ⟨?_, ?_⟩ <;> with_reducible rfl)); (go_at_call 117; (with_reducible refine (specAround_is (hX.up hSw.1) h hpk HR0.out).mono ?_); rintro e wD ⟨rfl, hbD⟩; apply And.intro; (with_reducible rfl); (have hUD := Up.then_ hSw.1 hbD; exact ⟨hUD, fun _ _ hb => hUD.cell hb⟩))); (try simp only [Act.put, List.setIfInBounds_toArray, List.set_cons_zero, List.set_cons_succ])))
    intro w2 hS2
    have hU2 : Up w1 w2 := hS2.1
    clear hS2 hV0
    replace hX := hX.up hU2
    have hbi := bit_zero S i (by omega)
    have hbj := bit_zero S j (by omega)
    have hown2 := OwnI.made (base := w2.heap.size) w2 (Nat.le_refl _)
    have hw2 := Up.then_ hU1 hU2
    have hww := hw2.alloc hw2.size (.cells #[] 3)
    clear hsu1 hsu2 hsu1I hsu2I hsk hsn hskI hsnI
    rcases Bool.eq_false_or_eq_true (S.testBit i) with ei | ei
    rotate_left
    · have HW := Lib.hid (wayOf_out (Q := Q) (n := n) (S := S) (a := i) (b := j) (.inl ei))
      rw [ei] at hbi
      go_wp2
      go_ret2
      rw [HW.out]
      exact givesIB_none hown2 hw2.size hww
    rcases Bool.eq_false_or_eq_true (S.testBit j) with ej | ej
    rotate_left
    · have HW := Lib.hid (wayOf_out (Q := Q) (n := n) (S := S) (a := i) (b := j) (.inr ej))
      rw [ei] at hbi
      rw [ej] at hbj
      go_wp2
      go_ret2
      rw [HW.out]
      exact givesIB_none hown2 hw2.size hww
    rw [ei] at hbi
    rw [ej] at hbj
    have hsb := bit_sub ej
    have HGt := Lib.hid (fun k => grow_lt (Q := Q) hSl hsb k)
    have HLt := Lib.hid (fun k => lay_lt (Q := Q) hSl hsb k)
    have HFar := Lib.hid (wayOf_far (Q := Q) (n := n) (S := S) (a := i) (b := j) h1 ej)
    have HYes := Lib.hid (fun d hd => wayOf_some (Q := Q) (n := n) (S := S) (a := i) (b := j) (d := d) h7 hSl ei ej hd)
    have HBit := Lib.hid (fun k v => testBit_lay (Q := Q) (k := k) (v := v) hsb)
    have HIff := Lib.hid (fun v k d hd => farK_iff (Q := Q) (v := v) (k := k) (d := d) hsb hd)
    have HSt := Lib.hid (fun d u hu => lay_step h hSl hsb (d := d) (u := u) hu)
    have HNe := Lib.hid (fun d u hu => lay_nonempty h hSl hsb (d := d) (u := u) hu)
    have H128 := Lib.hid (fun s (hs : s < 2 ^ n) => h.n7 hs)
    have hshj := shl_p2 (k := j) (by omega)
    have hbk2 := hbk1.up hU2
    have hzb2 := fun o => (hbk2.alloc o).two
    have hXw2 := Lib.hid hX
    have hb20 : Below w2.heap.size w2 (w2.alloc (.cells #[] 3)) := by go_grown
    clear ei ej hsb hyb1
    go_wp2_with fail
    clear hbi hbj
    go_loopw [11, 12] (fun s i wr => ∃ (v : Nat) (A' : Option Addr) (c' : Nat), v ≤ n ∧ i = .int .i64 v ∧ s = .slice A' v c' ∧ OwnI wr w2.heap.size A' v c' (List.replicate v (-1)) ∧ Below w2.heap.size w2 wr) (fun _ i _ => n - (intOf i).toNat)
    case atStart => exact ⟨0, _, _, Nat.zero_le _, rfl, rfl, hown2, hb20⟩
    case round =>
      clear hown2 hb20 hzb2
      obtain ⟨v, A', c', hv, rfl, rfl, hown, hb⟩ := hrel
      obtain ⟨wo, rfl⟩ : ∃ wo : World, wo = wr := ⟨_, rfl⟩
      have hyo := (hbk2.up hb).two
      by_cases hvn : v < n
      · have hcell := (Blk.new wo 3 #[.int .i64 (-1)]).one
        have hsz := hb.size
        go_wp2_with (at_builtin; refine wpList_push rfl (.tmp 76) (.tmp 77) rfl (-1) rfl (hown.alloc _) ⟨wo.heap.size, 0, none⟩ rfl hcell (by omega) (by simp; omega) ?_; intro A7 c7 w7 hown7 hb7 hg7)
        go_roundw
        case rel => exact ⟨v + 1, A7, c7, by omega, by go_num, rfl, hown7.cast rfl (by rw [List.replicate_succ']), (hb.alloc hsz _).trans hb7⟩
        case measure => simp [intOf]; omega
      · obtain rfl : v = n := by omega
        have HF := Lib.hid (farM_start Q S (2 ^ j) v)
        rw [← HF.out] at hown
        obtain ⟨gf, rfl⟩ := hown.form (by omega)
        have HG0 := Lib.hid (show grow Q S (2 ^ j) 0 = p2 j from rfl)
        clear HF
        go_wp2_with fail
        rw [hshj]
        clear hshj
        go_loopw [13, 14] (fun r s wr => ∃ q : Nat, q ≤ v ∧ s = .int .i64 q ∧ r = .int .i64 (grow Q S (2 ^ j) q : Nat) ∧ OwnI wr w2.heap.size (some ⟨gf, 0, none⟩) v c' (farM Q S (2 ^ j) v q 0) ∧ Below w2.heap.size w2 wr) (fun _ s _ => v - (intOf s).toNat)
        case atStart => exact ⟨0, Nat.zero_le _, rfl, by rw [HG0.out], hown, hb⟩
        case round =>
          clear hown hb hyo
          obtain ⟨q, hq, rfl, rfl, hown, hb⟩ := hrel
          obtain ⟨wq, rfl⟩ : ∃ wq : World, wq = wr := ⟨_, rfl⟩
          have hyq := (hbk2.up hb).two
          by_cases hqn : q < v
          · have hgl := HGt.out q
            have hg7 := H128.out _ hgl
            have HGl := Lib.hid hgl
            have HGn := Lib.hid (show around Q (grow Q S (2 ^ j) q) &&& S = grow Q S (2 ^ j) (q + 1) from rfl)
            have HFK := Lib.hid (show ∀ u, farK Q S (2 ^ j) u (q + 1) = if farK Q S (2 ^ j) u q < 0 ∧ (grow Q S (2 ^ j) q).testBit u = true then (q : Int) else farK Q S (2 ^ j) u q from fun u => rfl)
            obtain ⟨G, hG⟩ : ∃ G, G = grow Q S (2 ^ j) q := ⟨_, rfl⟩
            rw [← hG] at HGn HFK hg7 HGl ⊢
            clear hG hgl
            go_wp2_with fail
            go_loopw [15] (fun s wr => ∃ u : Nat, u ≤ v ∧ s = .int .i64 u ∧ OwnI wr w2.heap.size (some ⟨gf, 0, none⟩) v c' (farM Q S (2 ^ j) v q u) ∧ Below w2.heap.size w2 wr) (fun s _ => v - (intOf s).toNat)
            case atStart => exact ⟨0, Nat.zero_le _, rfl, hown, hb⟩
            case round =>
              clear hown hb hyq
              obtain ⟨u, hu, rfl, hown, hb⟩ := hrel
              obtain ⟨wu, rfl⟩ : ∃ wu : World, wu = wr := ⟨_, rfl⟩
              have hyu := (hbk2.up hb).two
              by_cases hun : u < v
              · have hcf : wu.cell? ⟨gf, u, none⟩ = some (.int .i64 (farK Q S (2 ^ j) u q)) := by
                  obtain ⟨_, e, _, hc⟩ := hown.ri.at_ (k := u) hun
                  injection e with e
                  subst e
                  rw [add_0_, farM_at hun, if_neg (by omega)] at hc
                  exact hc
                have hfk := HFK.out u
                have hbit := bit_one G u (by omega)
                have hfz := hown.frz_ u
                have Hkeep := Lib.hid (fun e => farM_keep (Q := Q) (S := S) (x := 2 ^ j) (n := v) (k := q) (v := u) e)
                have Hput := Lib.hid (fun (e : farK Q S (2 ^ j) u (q + 1) = (q : Int)) => farM_put (n := v) e hun)
                have hput := hown.put u (q : Int)
                obtain ⟨f, hf⟩ : ∃ f, f = farK Q S (2 ^ j) u q := ⟨_, rfl⟩
                rw [← hf] at hcf hfk Hkeep
                have Hfk := Lib.hid hfk
                clear hf hfk
                rcases Bool.eq_false_or_eq_true (G.testBit u) with e1 | e1
                · rw [e1] at hbit
                  by_cases hf0 : f < 0
                  · have HP := Lib.hid (Hput.out (by rw [Hfk.out, if_pos ⟨hf0, e1⟩]))
                    have df : decide (f < 0) = true := decide_eq_true hf0
                    rw [HP.out] at hput
                    clear e1 hf0
                    go_wp2
                    go_roundw
                    case rel => exact ⟨u + 1, by omega, by go_num, hput.1, hb.grown hput.2 hb.size fun k' e => by injection e with e; have := (hown.block gf rfl).1; omega⟩
                    case measure => simp [intOf]; omega
                  · have HK := Lib.hid (Hkeep.out (by rw [Hfk.out, if_neg fun h => hf0 h.1]))
                    have df : decide (f < 0) = false := decide_eq_false hf0
                    clear e1 hf0 hput
                    go_wp2
                    go_roundw
                    case rel => exact ⟨u + 1, by omega, by go_num, by rw [HK.out]; exact hown, hb⟩
                    case measure => simp [intOf]; omega
                · rw [e1] at hbit
                  have HK := Lib.hid (Hkeep.out (by rw [Hfk.out, if_neg fun h => by rw [e1] at h; exact Bool.false_ne_true h.2]))
                  clear e1 hput
                  go_wp2
                  go_roundw
                  case rel => exact ⟨u + 1, by omega, by go_num, by rw [HK.out]; exact hown, hb⟩
                  case measure => simp [intOf]; omega
              · obtain rfl : u = v := by omega
                rw [farM_next] at hown
                have hXu := hXw2.out.up hb
                have hAr := around_lt h HGl.out
                have hA7 := H128.out _ hAr
                have hand := i64_and7 hA7 hS7
                rw [HGn.out] at hand
                obtain ⟨Ar, hAre⟩ : ∃ Ar, Ar = around Q G := ⟨_, rfl⟩
                rw [← hAre] at hand
                have HAr := Lib.hid hAre.symm
                clear hAre hAr hA7
                go_wp2_with (go_at_call 117; refine (specAround_is hXu h HGl.out HAr.out).mono ?_; rintro e w9 ⟨rfl, hb9⟩)
                go_roundw
                case rel => exact ⟨q + 1, by omega, by go_num, by first | rfl | rw [hand], hown.up hb9, hb.trans (hb9.mono hb.size)⟩
                case measure => simp [intOf]; omega
          · obtain rfl : q = v := by omega
            obtain ⟨af, haf⟩ : ∃ af : Addr, (⟨gf, 0, none⟩ : Addr) = af := ⟨_, rfl⟩
            have Hcf := Lib.hid (show ∀ u, u < q → wq.cell? (af.add u) = some (.int .i64 (farK Q S (2 ^ j) u q)) from fun u hu => by
              obtain ⟨_, e, _, hc⟩ := hown.ri.at_ (k := u) hu
              injection e with e
              subst e
              rw [haf, farM_end hu] at hc
              exact hc)
            have hfb : af.block < wq.heap.size := by rw [← haf]; exact (hown.block gf rfl).2
            rw [haf]
            have hci := Hcf.out i hi
            have hwq : Up w wq := Up.then_ hw2 hb
            have hbq := hbk2.up hb
            have hXq := hXw2.out.up hb
            have hownq := OwnI.made (base := wq.heap.size) wq (Nat.le_refl _)
            have hwwq := hwq.alloc hwq.size (.cells #[] 3)
            clear hown HGt haf
            rcases farK_cases Q S (2 ^ j) i q with ⟨hf, _⟩ | ⟨dd, hdq, hf, _, _⟩
            · have HW := Lib.hid (HFar.out (by rw [hf]; omega))
              rw [hf] at hci
              clear hf
              go_wp2
              go_ret2
              rw [HW.out]
              exact givesIB_none hownq hwq.size hwwq
            · have hli := (HIff.out i q dd hdq).1 hf
              have HW := Lib.hid (HYes.out dd hli)
              rw [hf] at hci
              have df : decide ((dd : Int) < 0) = false := decide_eq_false (by omega)
              have hown1 := one_own (w := wq) (g := wq.heap.size) rfl (Nat.le_refl _) (i : Int)
              have hb1q : Below wq.heap.size wq (wq.alloc (.cells #[.int .i64 (i : Int)] 3)) := by go_grown
              obtain ⟨R, hR⟩ : ∃ R, R = i :: pathL Q S (2 ^ j) dd i := ⟨_, rfl⟩
              have HP0 := Lib.hid (show ([] ++ [i]) ++ pathL Q S (2 ^ j) dd i = R from hR.symm)
              have HWR := Lib.hid (show wayOf Q q S i j = some R by rw [HW.out.1, hR])
              have Hli := Lib.hid hli
              clear hf hR HW hli hownq hwwq
              go_wp2_with fail
              clear hci df
              go_loopg [16] dd (fun g s wr => ∃ (u : Nat) (p : List Nat) (A' : Option Addr) (c2 : Nat), s = .slice A' (p.length + 1) c2 ∧ OwnI wr wq.heap.size A' (p.length + 1) c2 (ints (p ++ [u])) ∧ Below wq.heap.size wq wr ∧ p.length + g = dd ∧ u < q ∧ Hid ((lay Q S (2 ^ j) g).testBit u = true) ∧ Hid ((p ++ [u]) ++ pathL Q S (2 ^ j) g u = R))
              case atStart => exact ⟨i, [], _, _, rfl, hown1, hb1q, by simp, hi, Hli.out, HP0.out⟩
              case round =>
                clear hown1 hb1q
                obtain ⟨u, p, A', c2, rfl, hown, hb3, hpl, huq, hlu, hpt⟩ := hrel
                obtain ⟨wo, rfl⟩ : ∃ wo : World, wo = wr := ⟨_, rfl⟩
                have hcu : ∃ ad, A' = some ad ∧ wo.cell? (ad.add p.length) = some (.int .i64 (u : Int)) := by
                  obtain ⟨ad, e, hc⟩ := hown.ri.nb_at (k := p.length) (by omega)
                  refine ⟨ad, e, ?_⟩
                  rw [hc]
                  simp [nb]
                obtain ⟨ad, rfl, hcu⟩ := hcu
                have hpl7 : p.length ≤ 7 := by omega
                obtain ⟨m1, hm1⟩ : ∃ m1, m1 = p.length + 1 := ⟨_, rfl⟩
                have hwk2 : wrap64 ((m1 : Int) - 1) = (p.length : Int) := by rw [IntWalk.wrap64_in _ ⟨by omega, by omega⟩]; omega
                have hwk : IntKind.i64.wrap ((m1 : Int) - 1) = (p.length : Int) := by rw [IntKind.wrap_i64]; omega
                have hkm : p.length < m1 := by omega
                have hm129 : m1 ≤ 129 := by omega
                have Hm1 := Lib.hid hm1
                rw [← hm1] at hown ⊢
                clear hm1
                by_cases hg0 : gk = 0
                · subst hg0
                  have huj : u = j := by
                    have h1 : (2 ^ j).testBit u = true := hlu.out
                    rw [Nat.testBit_two_pow] at h1
                    exact (of_decide_eq_true h1).symm
                  subst huj
                  have hne : ((u : Int) != (u : Int)) = false := by simp
                  have HE := Lib.hid (show p ++ [u] = R by have := hpt.out; rw [pathL, List.append_nil] at this; exact this)
                  go_wp2
                  go_ret2
                  rw [HWR.out, ← HE.out]
                  exact givesIB_len (by rw [Hm1.out]; simp) hown hwq.size (Up.then_ hwq hb3)
                · obtain ⟨g, rfl⟩ : ∃ g, gk = g + 1 := ⟨gk - 1, by omega⟩
                  have hst := HSt.out g u hlu.out
                  have hne0 := HNe.out g u hlu.out
                  have hgq : g < q := by omega
                  have huj : u ≠ j := fun e => by
                    have h1 := (HBit.out (g + 1) u).1 hlu.out
                    have h2 := h1.2 0 (by omega)
                    have h3 : (2 ^ j).testBit u = false := h2
                    rw [Nat.testBit_two_pow, e] at h3
                    simp at h3
                  have hneI : ((u : Int) != (j : Int)) = true := by rw [bne_iff_ne]; omega
                  have hs7 : nb Q u &&& lay Q S (2 ^ j) g < 128 := Nat.lt_of_le_of_lt Nat.and_le_left (h.nb7 u)
                  have HLeast := Lib.hid (fun x hx => fst1_least _ hs7 x hx)
                  have HBv := Lib.hid (fst1_bit hs7 hne0)
                  have HPn := Lib.hid (show ((p ++ [u]) ++ [fst1 (nb Q u &&& lay Q S (2 ^ j) g)]) ++ pathL Q S (2 ^ j) g (fst1 (nb Q u &&& lay Q S (2 ^ j) g)) = R by
                    have := hpt.out
                    rw [pathL] at this
                    rw [List.append_assoc]; exact this)
                  have HZ := Lib.hid (fun x => HIff.out x q g hgq)
                  have hfu := (HIff.out u q (g + 1) (by omega)).2 hlu.out
                  have Hs1 := Lib.hid hst.1
                  have hvn := hst.2.2
                  have hvu : fst1 (nb Q u &&& lay Q S (2 ^ j) g) ≠ u := fun e => by
                    have h1 := (HBit.out (g + 1) u).1 hlu.out
                    have h2 := h1.2 g (by omega)
                    have h3 := ((HBit.out g _).1 hst.1).1
                    rw [e, h2] at h3; cases h3
                  have HEb := Lib.hid (fun x => (show (nb Q u &&& lay Q S (2 ^ j) g).testBit x = (edge Q u x && (lay Q S (2 ^ j) g).testBit x) from Nat.testBit_and ..))
                  obtain ⟨s, hs⟩ : ∃ s, s = nb Q u &&& lay Q S (2 ^ j) g := ⟨_, rfl⟩
                  rw [← hs] at HLeast HBv HPn Hs1 hvn hvu HEb
                  obtain ⟨vs, hvs⟩ : ∃ vs, vs = fst1 s := ⟨_, rfl⟩
                  rw [← hvs] at HLeast HBv HPn Hs1 hvn hvu
                  have hcf := (hb3.cell (p := af.add u) (by rw [block_of_add]; exact hfb)).trans (Hcf.out u huq)
                  rw [hfu] at hcf
                  have Hfu := Lib.hid hfu
                  clear hst hne0 hs7 hs hvs hfu hlu hpt
                  go_wp2_with fail
                  go_loopw [16, 18] (fun s i wr => ∃ (x : Nat) (l : List Nat) (A2 : Option Addr) (c3 : Nat), x ≤ q ∧ i = .int .i64 x ∧ s = .slice A2 l.length c3 ∧ OwnI wr wq.heap.size A2 l.length c3 (ints l) ∧ Below wq.heap.size wq wr ∧ Hid (x ≤ vs ∧ l = p ++ [u] ∨ vs < x ∧ l = p ++ [u] ++ [vs])) (fun _ i _ => q - (intOf i).toNat)
                  case atStart => exact ⟨0, p ++ [u], _, _, Nat.zero_le _, rfl, by rw [Hm1.out]; simp, hown.cast (by rw [Hm1.out]; simp) rfl, hb3, .inl ⟨Nat.zero_le _, rfl⟩⟩
                  case round =>
                    clear hown hb3 hcu hcf
                    obtain ⟨x, l, A2, c3, hx, rfl, rfl, hown, hb4, hl⟩ := hrel
                    obtain ⟨wi, rfl⟩ : ∃ wi : World, wi = wr := ⟨_, rfl⟩
                    have hyi := (hbq.up hb4).two
                    by_cases hxq : x < q
                    · have hXi := hXq.up hb4
                      have hli := (hbq.up hb4).lt
                      have hcfx := (hb4.cell (p := af.add x) (by rw [block_of_add]; exact hfb)).trans (Hcf.out x hxq)
                      have hcfu := (hb4.cell (p := af.add u) (by rw [block_of_add]; exact hfb)).trans (Hcf.out u huq)
                      rw [Hfu.out] at hcfu
                      have hafi : af.block < wi.heap.size := Nat.lt_of_lt_of_le hfb hb4.size
                      have hz := HZ.out x
                      have hle := HEb.out x
                      have hlen : 0 < l.length ∧ l.length ≤ 9 := by rcases hl.out with ⟨_, e⟩ | ⟨_, e⟩ <;> (rw [e]; simp; omega)
                      have hlast : x ≤ vs ∧ l = p ++ [u] ∧ nb l (l.length - 1) = u ∨ vs < x ∧ l = p ++ [u] ++ [vs] ∧ nb l (l.length - 1) = vs := by
                        rcases hl.out with ⟨h1, e⟩ | ⟨h1, e⟩
                        · exact .inl ⟨h1, e, by rw [e]; simp [nb]⟩
                        · refine .inr ⟨h1, e, ?_⟩
                          have e2 : (p ++ [u] ++ [vs]).length - 1 = (p ++ [u]).length := by simp
                          rw [e, e2]; simp [nb]
                      obtain ⟨ad2, rfl, hcl⟩ := hown.ri.nb_at (k := l.length - 1) (by omega)
                      have had2 : ad2.block < wi.heap.size := by obtain ⟨_, e, h1, _⟩ := hown.ri.addr hlen.1; injection e with e; subst e; exact h1
                      obtain ⟨m2, hm2⟩ : ∃ m2, m2 = l.length := ⟨_, rfl⟩
                      obtain ⟨lk, hlk⟩ : ∃ lk, lk = l.length - 1 := ⟨_, rfl⟩
                      obtain ⟨y, hy⟩ : ∃ y, y = nb l (l.length - 1) := ⟨_, rfl⟩
                      rw [← hy, ← hlk] at hcl
                      rw [← hy] at hlast
                      have wk2 : wrap64 ((m2 : Int) - 1) = (lk : Int) := by rw [IntWalk.wrap64_in _ ⟨by omega, by omega⟩]; omega
                      have wk : IntKind.i64.wrap ((m2 : Int) - 1) = (lk : Int) := by rw [IntKind.wrap_i64]; omega
                      obtain ⟨fu, hfe⟩ : ∃ fu : Int, fu = ((g + 1 : Nat) : Int) := ⟨_, rfl⟩
                      have wf2 : wrap64 (fu - 1) = (g : Int) := by rw [IntWalk.wrap64_in _ ⟨by omega, by omega⟩]; omega
                      have wf : IntKind.i64.wrap (fu - 1) = (g : Int) := by rw [IntKind.wrap_i64]; omega
                      rw [← hfe] at hcfu
                      clear hfe
                      have hkm2 : lk < m2 := by omega
                      have hm29 : m2 ≤ 9 := by omega
                      have Hm2 := Lib.hid hm2
                      rw [← hm2] at hown ⊢
                      obtain ⟨z, hzz⟩ : ∃ z, z = farK Q S (2 ^ j) x q := ⟨_, rfl⟩
                      rw [← hzz] at hcfx hz
                      clear hm2 hlk hy hzz hlen hl
                      rcases Bool.eq_false_or_eq_true (edge Q u x) with e1 | e1
                      · have E1 := Lib.hid (show (nb Q u).testBit x = true from e1)
                        by_cases hzg : z = (g : Int)
                        · have hsx : s.testBit x = true := by rw [hle, e1, hz.1 hzg]; rfl
                          have dz : (z == (g : Int)) = true := by rw [beq_iff_eq]; exact hzg
                          rcases hlast with ⟨h1, h2, h3⟩ | ⟨h1, h2, h3⟩
                          · have hxv : x = vs := by
                              refine Nat.le_antisymm h1 (Nat.not_lt.1 fun hh => ?_)
                              rw [HLeast.out x hh] at hsx; cases hsx
                            subst h3 hxv
                            have HL2 := Lib.hid (show x + 1 ≤ x ∧ l ++ [x] = p ++ [y] ∨ x < x + 1 ∧ l ++ [x] = p ++ [y] ++ [x] from .inr ⟨by omega, by rw [h2]⟩)
                            have dl : ((y : Int) == (y : Int)) = true := by simp
                            subst hzg
                            clear hz hle hsx h1 h2 e1
                            go_wp2
                            have hV0 : Up wi wi.drew := (Up.refl _).drew
                            refine wp_region_calm (S := (fun w' => Up wi w' ∧ (∀ b o, b < wi.heap.size → w'.cell? ⟨b, o, none⟩ = wi.cell? ⟨b, o, none⟩) ∧ w'.cell? (af.add x) = some (.int .i64 (g : Int)) ∧ w'.cell? (af.add y) = some (.int .i64 (fu)) ∧ w'.cell? (ad2.add lk) = some (.int .i64 (y : Nat)))) (by kernel_rfl) (by kernel_rfl) (by exact ⟨hV0, fun _ _ hb => hV0.cell hb, (hV0.cell (by first | assumption | (rw [block_of_add]; assumption))).trans (by assumption), (hV0.cell (by first | assumption | (rw [block_of_add]; assumption))).trans (by assumption), (hV0.cell (by first | assumption | (rw [block_of_add]; assumption))).trans (by assumption)⟩) ?_
                            repeat (first | (refine CalmSeq.cons undef (Calm.off (by rfl)) ?_; (try simp only [Act.put, List.setIfInBounds_toArray, List.set_cons_zero, List.set_cons_succ])) | (refine CalmSeq.cons ?_ (Calm.val (by rfl) ?_) ?_; rotate_left; (intro wC hSw; (try dsimp only at hSw); go_simp; done); (try simp only [Act.put, List.setIfInBounds_toArray, List.set_cons_zero, List.set_cons_succ])) | (refine CalmSeq.cons ?_ (Calm.val (by rfl) ?_) ?_; rotate_left; (intro wC hSw; (try dsimp only at hSw); go_simp; with_reducible rfl); (try simp only [Act.put, List.setIfInBounds_toArray, List.set_cons_zero, List.set_cons_succ])) | ((refine CalmSeq.cons ?_ (Calm.call (f := ?_) (args := ?_) (by rfl) ?_ (fun wC hSw => ?_)) ?_; rotate_left 3; (intro wC; go_simp; (refine ⟨?_, ?_⟩ <;> with_reducible rfl)); (go_at_call 69; (with_reducible refine (l2Edge_is (hXi.up hSw.1) h huq hxq E1.out).mono ?_); rintro e wD ⟨rfl, hbD⟩; apply And.intro; (with_reducible rfl); (have hUD := Up.then_ hSw.1 hbD; exact ⟨hUD, fun _ _ hb => hUD.cell hb, (hUD.cell (by first | assumption | (rw [block_of_add]; assumption))).trans (by assumption), (hUD.cell (by first | assumption | (rw [block_of_add]; assumption))).trans (by assumption), (hUD.cell (by first | assumption | (rw [block_of_add]; assumption))).trans (by assumption)⟩))); (try simp only [Act.put, List.setIfInBounds_toArray, List.set_cons_zero, List.set_cons_succ])))
                            intro w5 hS5
                            have hU5 : Up wi w5 := hS5.1
                            clear hS5 hV0
                            have hown5 := hown.up hU5
                            have hb5 : Below wq.heap.size wq w5 := hb4.trans (hU5.mono hb4.size)
                            have hsz5 := hb5.size
                            have hcell := (Blk.new w5 3 #[.int .i64 (x : Int)]).one
                            go_wp2_with (at_builtin; refine wpList_push rfl (.tmp 168) (.tmp 170) rfl (x : Int) rfl (hown5.alloc _) ⟨w5.heap.size, 0, none⟩ rfl hcell (by omega) (by simp; omega) ?_; intro A7 c7 w7 hown7 hb7 hg7)
                            go_roundw
                            case rel => exact ⟨x + 1, l ++ [x], A7, c7, by omega, by go_num, by rw [← push_len, ← Hm2.out], hown7.cast (by rw [Hm2.out]; exact push_len) (by rw [ints_snoc]), (hb5.alloc hsz5 _).trans hb7, HL2.out⟩
                            case measure => simp [intOf]; omega
                          · have HL2 := Lib.hid (show x + 1 ≤ vs ∧ l = p ++ [u] ∨ vs < x + 1 ∧ l = p ++ [u] ++ [vs] from .inr ⟨by omega, h2⟩)
                            have dl : ((u : Int) == (y : Int)) = false := by rw [beq_eq_false_iff_ne]; omega
                            clear hz hle hsx h1 h2 h3 e1 hzg
                            go_wp2
                            have hV0 : Up wi wi.drew := (Up.refl _).drew
                            refine wp_region_calm (S := (fun w' => Up wi w' ∧ (∀ b o, b < wi.heap.size → w'.cell? ⟨b, o, none⟩ = wi.cell? ⟨b, o, none⟩) ∧ w'.cell? (af.add x) = some (.int .i64 (z)) ∧ w'.cell? (af.add u) = some (.int .i64 (fu)) ∧ w'.cell? (ad2.add lk) = some (.int .i64 (y : Nat)))) (by kernel_rfl) (by kernel_rfl) (by exact ⟨hV0, fun _ _ hb => hV0.cell hb, (hV0.cell (by first | assumption | (rw [block_of_add]; assumption))).trans (by assumption), (hV0.cell (by first | assumption | (rw [block_of_add]; assumption))).trans (by assumption), (hV0.cell (by first | assumption | (rw [block_of_add]; assumption))).trans (by assumption)⟩) ?_
                            repeat (first | (refine CalmSeq.cons undef (Calm.off (by rfl)) ?_; (try simp only [Act.put, List.setIfInBounds_toArray, List.set_cons_zero, List.set_cons_succ])) | (refine CalmSeq.cons ?_ (Calm.val (by rfl) ?_) ?_; rotate_left; (intro wC hSw; (try dsimp only at hSw); go_simp; done); (try simp only [Act.put, List.setIfInBounds_toArray, List.set_cons_zero, List.set_cons_succ])) | (refine CalmSeq.cons ?_ (Calm.val (by rfl) ?_) ?_; rotate_left; (intro wC hSw; (try dsimp only at hSw); go_simp; with_reducible rfl); (try simp only [Act.put, List.setIfInBounds_toArray, List.set_cons_zero, List.set_cons_succ])) | ((refine CalmSeq.cons ?_ (Calm.call (f := ?_) (args := ?_) (by rfl) ?_ (fun wC hSw => ?_)) ?_; rotate_left 3; (intro wC; go_simp; (refine ⟨?_, ?_⟩ <;> with_reducible rfl)); (go_at_call 69; (with_reducible refine (l2Edge_is (hXi.up hSw.1) h huq hxq E1.out).mono ?_); rintro e wD ⟨rfl, hbD⟩; apply And.intro; (with_reducible rfl); (have hUD := Up.then_ hSw.1 hbD; exact ⟨hUD, fun _ _ hb => hUD.cell hb, (hUD.cell (by first | assumption | (rw [block_of_add]; assumption))).trans (by assumption), (hUD.cell (by first | assumption | (rw [block_of_add]; assumption))).trans (by assumption), (hUD.cell (by first | assumption | (rw [block_of_add]; assumption))).trans (by assumption)⟩))); (try simp only [Act.put, List.setIfInBounds_toArray, List.set_cons_zero, List.set_cons_succ])))
                            intro w5 hS5
                            have hU5 : Up wi w5 := hS5.1
                            clear hS5 hV0
                            go_wp2
                            go_roundw
                            case rel => exact ⟨x + 1, l, some ad2, c3, by omega, by go_num, by rw [← Hm2.out], (hown.up hU5).cast Hm2.out rfl, hb4.trans (hU5.mono hb4.size), HL2.out⟩
                            case measure => simp [intOf]; omega
                        · have HL2 := Lib.hid (show x + 1 ≤ vs ∧ l = p ++ [u] ∨ vs < x + 1 ∧ l = p ++ [u] ++ [vs] from by
                            rcases hlast with ⟨h1, h2, _⟩ | ⟨h1, h2, _⟩
                            · refine .inl ⟨Nat.lt_of_le_of_ne h1 fun e => ?_, h2⟩
                              have h4 := HBv.out
                              rw [← e, hle, e1, Bool.true_and] at h4
                              exact hzg (hz.2 h4)
                            · exact .inr ⟨by omega, h2⟩)
                          have dz : (z == (g : Int)) = false := by rw [beq_eq_false_iff_ne]; exact hzg
                          clear hz hle e1 hlast
                          go_wp2
                          have hV0 : Up wi wi.drew := (Up.refl _).drew
                          refine wp_region_calm (S := (fun w' => Up wi w' ∧ (∀ b o, b < wi.heap.size → w'.cell? ⟨b, o, none⟩ = wi.cell? ⟨b, o, none⟩) ∧ w'.cell? (af.add x) = some (.int .i64 (z)) ∧ w'.cell? (af.add u) = some (.int .i64 (fu)) ∧ w'.cell? (ad2.add lk) = some (.int .i64 (y : Nat)))) (by kernel_rfl) (by kernel_rfl) (by exact ⟨hV0, fun _ _ hb => hV0.cell hb, (hV0.cell (by first | assumption | (rw [block_of_add]; assumption))).trans (by assumption), (hV0.cell (by first | assumption | (rw [block_of_add]; assumption))).trans (by assumption), (hV0.cell (by first | assumption | (rw [block_of_add]; assumption))).trans (by assumption)⟩) ?_
                          repeat (first | (refine CalmSeq.cons undef (Calm.off (by rfl)) ?_; (try simp only [Act.put, List.setIfInBounds_toArray, List.set_cons_zero, List.set_cons_succ])) | (refine CalmSeq.cons ?_ (Calm.val (by rfl) ?_) ?_; rotate_left; (intro wC hSw; (try dsimp only at hSw); go_simp; done); (try simp only [Act.put, List.setIfInBounds_toArray, List.set_cons_zero, List.set_cons_succ])) | (refine CalmSeq.cons ?_ (Calm.val (by rfl) ?_) ?_; rotate_left; (intro wC hSw; (try dsimp only at hSw); go_simp; with_reducible rfl); (try simp only [Act.put, List.setIfInBounds_toArray, List.set_cons_zero, List.set_cons_succ])) | ((refine CalmSeq.cons ?_ (Calm.call (f := ?_) (args := ?_) (by rfl) ?_ (fun wC hSw => ?_)) ?_; rotate_left 3; (intro wC; go_simp; (refine ⟨?_, ?_⟩ <;> with_reducible rfl)); (go_at_call 69; (with_reducible refine (l2Edge_is (hXi.up hSw.1) h huq hxq E1.out).mono ?_); rintro e wD ⟨rfl, hbD⟩; apply And.intro; (with_reducible rfl); (have hUD := Up.then_ hSw.1 hbD; exact ⟨hUD, fun _ _ hb => hUD.cell hb, (hUD.cell (by first | assumption | (rw [block_of_add]; assumption))).trans (by assumption), (hUD.cell (by first | assumption | (rw [block_of_add]; assumption))).trans (by assumption), (hUD.cell (by first | assumption | (rw [block_of_add]; assumption))).trans (by assumption)⟩))); (try simp only [Act.put, List.setIfInBounds_toArray, List.set_cons_zero, List.set_cons_succ])))
                          intro w5 hS5
                          have hU5 : Up wi w5 := hS5.1
                          clear hS5 hV0
                          go_wp2
                          go_roundw
                          case rel => exact ⟨x + 1, l, some ad2, c3, by omega, by go_num, by rw [← Hm2.out], (hown.up hU5).cast Hm2.out rfl, hb4.trans (hU5.mono hb4.size), HL2.out⟩
                          case measure => simp [intOf]; omega
                      · have E1 := Lib.hid (show (nb Q u).testBit x = false from e1)
                        have HL2 := Lib.hid (show x + 1 ≤ vs ∧ l = p ++ [u] ∨ vs < x + 1 ∧ l = p ++ [u] ++ [vs] from by
                          rcases hlast with ⟨h1, h2, _⟩ | ⟨h1, h2, _⟩
                          · refine .inl ⟨Nat.lt_of_le_of_ne h1 fun e => ?_, h2⟩
                            have h4 := HBv.out
                            rw [← e, hle, e1, Bool.false_and] at h4
                            cases h4
                          · exact .inr ⟨by omega, h2⟩)
                        clear hz hle e1 hlast
                        go_wp2
                        have hV0 : Up wi wi.drew := (Up.refl _).drew
                        refine wp_region_calm (S := (fun w' => Up wi w' ∧ (∀ b o, b < wi.heap.size → w'.cell? ⟨b, o, none⟩ = wi.cell? ⟨b, o, none⟩) ∧ w'.cell? (af.add x) = some (.int .i64 (z)) ∧ w'.cell? (af.add u) = some (.int .i64 (fu)) ∧ w'.cell? (ad2.add lk) = some (.int .i64 (y : Nat)))) (by kernel_rfl) (by kernel_rfl) (by exact ⟨hV0, fun _ _ hb => hV0.cell hb, (hV0.cell (by first | assumption | (rw [block_of_add]; assumption))).trans (by assumption), (hV0.cell (by first | assumption | (rw [block_of_add]; assumption))).trans (by assumption), (hV0.cell (by first | assumption | (rw [block_of_add]; assumption))).trans (by assumption)⟩) ?_
                        repeat (first | (refine CalmSeq.cons undef (Calm.off (by rfl)) ?_; (try simp only [Act.put, List.setIfInBounds_toArray, List.set_cons_zero, List.set_cons_succ])) | (refine CalmSeq.cons ?_ (Calm.val (by rfl) ?_) ?_; rotate_left; (intro wC hSw; (try dsimp only at hSw); go_simp; done); (try simp only [Act.put, List.setIfInBounds_toArray, List.set_cons_zero, List.set_cons_succ])) | (refine CalmSeq.cons ?_ (Calm.val (by rfl) ?_) ?_; rotate_left; (intro wC hSw; (try dsimp only at hSw); go_simp; with_reducible rfl); (try simp only [Act.put, List.setIfInBounds_toArray, List.set_cons_zero, List.set_cons_succ])) | ((refine CalmSeq.cons ?_ (Calm.call (f := ?_) (args := ?_) (by rfl) ?_ (fun wC hSw => ?_)) ?_; rotate_left 3; (intro wC; go_simp; (refine ⟨?_, ?_⟩ <;> with_reducible rfl)); (go_at_call 69; (with_reducible refine (l2Edge_is (hXi.up hSw.1) h huq hxq E1.out).mono ?_); rintro e wD ⟨rfl, hbD⟩; apply And.intro; (with_reducible rfl); (have hUD := Up.then_ hSw.1 hbD; exact ⟨hUD, fun _ _ hb => hUD.cell hb, (hUD.cell (by first | assumption | (rw [block_of_add]; assumption))).trans (by assumption), (hUD.cell (by first | assumption | (rw [block_of_add]; assumption))).trans (by assumption), (hUD.cell (by first | assumption | (rw [block_of_add]; assumption))).trans (by assumption)⟩))); (try simp only [Act.put, List.setIfInBounds_toArray, List.set_cons_zero, List.set_cons_succ])))
                        intro w5 hS5
                        have hU5 : Up wi w5 := hS5.1
                        clear hS5 hV0
                        go_wp2
                        go_roundw
                        case rel => exact ⟨x + 1, l, some ad2, c3, by omega, by go_num, by rw [← Hm2.out], (hown.up hU5).cast Hm2.out rfl, hb4.trans (hU5.mono hb4.size), HL2.out⟩
                        case measure => simp [intOf]; omega
                    · obtain rfl : x = q := by omega
                      have hl2 : l = p ++ [u] ++ [vs] := (hl.out.resolve_left fun h => by omega).2
                      subst hl2
                      go_wp2
                      go_roundg g
                      case measure => omega
                      case rel => exact ⟨vs, p ++ [u], A2, c3, by simp, hown.cast (by simp) rfl, hb4, by simp; omega, hvn, Hs1.out, HPn.out⟩
end Go.Proofs.YthncdjcmlpiebaaGreat
