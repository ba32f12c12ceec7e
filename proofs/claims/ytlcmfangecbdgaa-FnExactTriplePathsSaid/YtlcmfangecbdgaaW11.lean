/- Walks of chapter 11: the shortest way within a set, the program's. -/
import Derived.Test.YtlcmfangecbdgaaW5
import Derived.Test.YtlcmfangecbdgaaCalm
import Derived.Test.YtlcmfangecbdgaaPure11
import Derived.Test.YtlcmfangecbdgaaNat
import Derived.Deep.LoopGhost
import Derived.Deep.RegionWith
namespace Go.Proofs.Ytlcmfangecbdgaa
open Go.RowKit
/-- The layers 0 to k. -/
def layL (Q : List Nat) (S x k : Nat) : List Nat := (List.range (k + 1)).map (lay Q S x)
theorem layL_len (Q : List Nat) (S x k : Nat) : (layL Q S x k).length = k + 1 := by simp [layL]
theorem layL_succ (Q : List Nat) (S x k : Nat) : layL Q S x (k + 1) = layL Q S x k ++ [lay Q S x (k + 1)] := by
  unfold layL
  rw [List.range_succ, List.map_append]
  rfl
theorem layL_at {Q : List Nat} {S x k j : Nat} (h : j ≤ k) : nb (layL Q S x k) j = lay Q S x j := by
  rw [nb, layL]
  simp [List.getD, show j < k + 1 by omega]
theorem grow_less {Q : List Nat} {S x k : Nat} (h : sub x S) (h0 : lay Q S x (k + 1) ≠ 0) : grow Q S x k < grow Q S x (k + 1) := by
  refine Nat.lt_of_le_of_ne (sub_le (grow_step h k)) fun e => h0 ?_
  rw [lay, ← e]
  apply Nat.eq_of_testBit_eq
  intro i
  rw [testBit_dif, Nat.zero_testBit]
  cases (grow Q S x k).testBit i <;> rfl
theorem one_own {w : World} {g : Nat} (h : w.heap.size = g) {base : Nat} (hb : base ≤ g) (x : Int) : OwnI (w.alloc (.cells #[.int .i64 x] 3)) base (some ⟨g, 0, none⟩) 1 1 [x] := (OwnI.of_blk (L := [x]) (Blk.new_at h) rfl (by simp)).more hb
theorem implNeighbors_is {A : Option Addr} {n c s x : Nat} {Q : List Nat} {w : World} (hX : RI w A n (ints Q)) (h : GOk n Q) (hs : s < 2 ^ n) (hx : nbrs Q s = x) :
    Calls Try.prog 78 #[.agg #[.int .i64 n, .slice A n c], .int .i64 s] w fun e w' => e = .returned (.int .i64 (x : Nat)) ∧ Below w.heap.size w w' := by
  subst hx; exact implNeighbors_any A n c s Q w hX h hs
theorem implListOf_fst {s : Nat} {w : World} (hs : s < 128) (h0 : s ≠ 0) : Calls Try.prog 79 #[.int .i64 s] w fun e w' => ∃ g l d, e = .returned (.slice (some ⟨g, 0, none⟩) l d) ∧ 0 < l ∧ w'.cell? ⟨g, 0, none⟩ = some (.int .i64 (fst1 s : Nat)) ∧ Below w.heap.size w w' :=
  (implListOf_any s w hs).mono fun _ w' h => by
    obtain ⟨A, c, rfl, hown, hb⟩ := h.out
    have hp := listOf_pos hs h0
    obtain ⟨g, rfl⟩ := hown.form hp
    refine ⟨g, _, c, rfl, hp, ?_, hb⟩
    obtain ⟨_, e, _, hc⟩ := hown.ri.at_ (k := 0) hp
    injection e with e
    subst e
    rw [ints_nb] at hc
    exact hc
set_option maxRecDepth 100000 in
set_option maxHeartbeats 4000000 in
theorem shortestWay_any (A : Option Addr) (n c S a b : Nat) (Q : List Nat) (w : World) (hX : RI w A n (ints Q)) (h : GOk n Q) (hS : S < 2 ^ n) (ha : a < n) (hb : b < n) :
    Calls Try.prog 55 #[.agg #[.int .i64 n, .slice A n c], .int .i64 S, .int .i64 a, .int .i64 b] w (GivesIB (optL (wayOf Q n S a b)) (wayOf Q n S a b).isSome w) := by
  have hbk := Blk.new w 27 #[.int .i64 n, .slice A n c]
  have hU0 : Up w (w.alloc (.cells #[.int .i64 n, .slice A n c] 27)) := by go_grown
  have h7 := h.le
  have hS7 := h.n7 hS
  rcases Bool.eq_false_or_eq_true (S.testBit a) with ea | ea
  rotate_left
  · have H1 := Lib.hid ea
    rw [wayOf_out (.inl ea)]
    clear ea
    go_enter Try.func55, Try.ntmps55
    go_wp2_with (go_at_call 77; refine (has_eq (by omega) (by omega) H1.out).mono ?_; rintro e w' ⟨rfl, rfl⟩)
    go_ret2
    exact givesIB_none (OwnI.nil_ _ _) (Nat.le_refl _) hU0
  rcases Bool.eq_false_or_eq_true (S.testBit b) with eb | eb
  rotate_left
  · have H1 := Lib.hid ea
    have H2 := Lib.hid eb
    rw [wayOf_out (.inr eb)]
    clear ea eb
    by_cases hab : a = b
    · subst hab
      rw [H1.out] at H2
      exact absurd H2.out (by simp)
    · go_enter Try.func55, Try.ntmps55
      go_wp2_with (first | (go_at_call_of 77 (Value.int .i64 (a : Int)); refine (has_eq (by omega) (by omega) H1.out).mono ?_; rintro e w' ⟨rfl, rfl⟩) | (go_at_call_of 77 (Value.int .i64 (b : Int)); refine (has_eq (by omega) (by omega) H2.out).mono ?_; rintro e w' ⟨rfl, rfl⟩))
      go_ret2
      exact givesIB_none (OwnI.nil_ _ _) (Nat.le_refl _) hU0
  have hsub := bit_sub eb
  have H1 := Lib.hid ea
  have H2 := Lib.hid eb
  have hsh := shl_p2 (k := b) (by omega)
  have hp2b : p2 b < 128 := Nat.pow_lt_pow_right (by omega) (by omega : b < 7)
  have HNx := Lib.hid (fun k => (lay_next h hS hsub k : dif (nbrs Q (lay Q S (2 ^ b) k) &&& S) (grow Q S (2 ^ b) k) = lay Q S (2 ^ b) (k + 1)))
  have HGl := Lib.hid (fun k => grow_lay (Q := Q) hsub k)
  have HLs := Lib.hid (fun k h0 => grow_less (Q := Q) (k := k) hsub h0)
  have HGt := Lib.hid (fun k => grow_lt (Q := Q) hS hsub k)
  have HLt := Lib.hid (fun k => lay_lt (Q := Q) hS hsub k)
  have HNo := Lib.hid (fun k h0 ha' => wayOf_none (Q := Q) (n := n) (S := S) (a := a) (b := b) (k := k) h7 hS eb h0 ha')
  have HYes := Lib.hid (fun d hd => wayOf_some (Q := Q) (n := n) (S := S) (a := a) (b := b) (d := d) h7 hS ea eb hd)
  have HBit := Lib.hid (fun k v => testBit_lay (Q := Q) (k := k) (v := v) hsub)
  have HSt := Lib.hid (fun d u hu => lay_step h hS hsub (d := d) (u := u) hu)
  have HNe := Lib.hid (fun d u hu => lay_nonempty h hS hsub (d := d) (u := u) hu)
  have Hb7 := Lib.hid (fun v => h.nb7 v)
  have H128 := Lib.hid (fun s (hs : s < 2 ^ n) => h.n7 hs)
  clear ea eb hsub
  obtain ⟨aX, rfl, _, _⟩ := hX.addr h.pos
  have hbk0 := hbk
  obtain ⟨W0, hW0⟩ : ∃ W0, W0 = w.alloc (.cells #[.int .i64 n, .slice (some aX) n c] 27) := ⟨_, rfl⟩
  have hsz0 : W0.heap.size = w.heap.size + 1 := by rw [hW0]; simp
  rw [← hW0] at hbk0 hU0
  have hX0 := hX.up hU0
  have hown0 := one_own (w := W0) (g := w.heap.size + 1) hsz0 (base := w.heap.size + 1) (Nat.le_refl _) (p2 b : Int)
  have hL0 := Lib.hid (show layL Q S (2 ^ b) 0 = [p2 b] from rfl)
  have hR0 := Lib.hid (show grow Q S (2 ^ b) 0 = p2 b from rfl)
  have hBl0 : Below (w.heap.size + 1) W0 (W0.alloc (.cells #[.int .i64 (p2 b : Int)] 3)) := (Below.refl _ _).alloc (by omega) _
  go_enter Try.func55, Try.ntmps55
  go_wp2_with (first | (go_at_call_of 77 (Value.int .i64 (a : Int)); refine (has_eq (by omega) (by omega) H1.out).mono ?_; rintro e w' ⟨rfl, rfl⟩) | (go_at_call_of 77 (Value.int .i64 (b : Int)); refine (has_eq (by omega) (by omega) H2.out).mono ?_; rintro e w' ⟨rfl, rfl⟩))
  rw [hsh, ← hW0]
  have hlt0 := hbk0.lt
  clear hsh hW0 hbk
  have hP1 : p2 b + 1 ≤ 2 ^ n + 1 := by have := HGt.out 0; rw [hR0.out] at this; omega
  obtain ⟨P, hP⟩ : ∃ P, P = 2 ^ n := ⟨_, rfl⟩
  rw [← hP] at hP1
  have HP := Lib.hid hP
  clear hP
  go_loopg [10, 11] (P + 1 - p2 b) (fun g s u wr => ∃ (k : Nat) (A' : Option Addr) (c' : Nat), s = .slice A' (k + 1) c' ∧ u = .int .i64 (grow Q S (2 ^ b) k : Nat) ∧ OwnI wr (w.heap.size + 1) A' (k + 1) c' (ints (layL Q S (2 ^ b) k)) ∧ Below (w.heap.size + 1) W0 wr ∧ g + grow Q S (2 ^ b) k = P + 1 ∧ k ≤ grow Q S (2 ^ b) k ∧ Hid (∀ j, j < k → (grow Q S (2 ^ b) j).testBit a = false))
  case atStart => exact ⟨0, _, _, rfl, by rw [hR0.out], by rw [hL0.out]; exact hown0, hBl0, by rw [hR0.out]; omega, by omega, fun j hj => absurd hj (by omega)⟩
  case round =>
    clear hown0 hBl0
    obtain ⟨k, A', c', rfl, rfl, hown, hb1, hgk, hkg, hno⟩ := hrel
    obtain ⟨wo, rfl⟩ : ∃ wo : World, wo = wr := ⟨_, rfl⟩
    have hg2 := HGt.out k
    have hg7 := H128.out _ hg2
    have HS := Lib.hid hg2
    rcases Bool.eq_false_or_eq_true ((grow Q S (2 ^ b) k).testBit a) with e1 | e1
    · have hY := Lib.hid (HYes.out k ((HBit.out k a).2 ⟨e1, hno.out⟩))
      have hLa := Lib.hid ((HBit.out k a).2 ⟨e1, hno.out⟩)
      have E1 := Lib.hid e1
      obtain ⟨hlen, hkn⟩ : (a :: pathL Q S (2 ^ b) k a).length = k + 1 ∧ k < n := ⟨by rw [List.length_cons, pathL_len], hY.out.2⟩
      have HPth := Lib.hid (show [a] ++ pathL Q S (2 ^ b) k a = a :: pathL Q S (2 ^ b) k a from rfl)
      obtain ⟨R, hR⟩ : ∃ R, R = a :: pathL Q S (2 ^ b) k a := ⟨_, rfl⟩
      rw [← hR] at HPth hlen
      have HYR := Lib.hid (show wayOf Q n S a b = some R by rw [hY.out.1, hR])
      have hwo : Up w wo := hU0.trans (hb1.mono (by omega))
      have hri := hown.ri
      obtain ⟨ad, rfl, hlad, _⟩ := hri.addr (by omega)
      have hbo := hbk0.below hb1 (by omega)
      have hXo := hX.up hwo
      have hown1 := one_own (w := wo) (g := wo.heap.size) rfl (Nat.le_refl _) (a : Int)
      have hb2 : Below wo.heap.size wo (wo.alloc (.cells #[.int .i64 (a : Int)] 3)) := by go_grown
      have hw2 : IntKind.i64.wrap ((k : Int) + 1 - 2) = (k : Int) - 1 := by rw [IntKind.wrap_i64]; omega
      have hw3 : wrap64 ((k : Int) + 1 - 2) = (k : Int) - 1 := by rw [IntWalk.wrap64_in _ ⟨by omega, by omega⟩]; omega
      clear hR hno HNo HYes HBit HNx HGl HLs HGt hgk hkg hg2 HS e1 hY
      go_wp2_with (go_at_call 77; refine (has_eq (by omega) (by omega) E1.out).mono ?_; rintro e w' ⟨rfl, rfl⟩)
      have hlay : ∀ j, j ≤ k → wo.cell? (ad.add j) = some (.int .i64 (lay Q S (2 ^ b) j : Nat)) := fun j hj => by
        obtain ⟨_, e, hc⟩ := hri.nb_at (k := j) (by omega)
        injection e with e
        subst e
        rw [layL_at hj] at hc
        exact hc
      have Hlay := Lib.hid hlay
      clear hlay hri hown
      go_loopg [2, 13, 14] k (fun d va s i wr => ∃ (u : Nat) (p : List Nat) (A' : Option Addr) (c2 : Nat), va = .int .i64 u ∧ i = .int .i64 ((d : Int) - 1) ∧ s = .slice A' p.length c2 ∧ OwnI wr wo.heap.size A' p.length c2 (ints p) ∧ Below wo.heap.size wo wr ∧ p.length + d = k + 1 ∧ u < n ∧ Hid ((lay Q S (2 ^ b) d).testBit u = true) ∧ Hid (p ++ pathL Q S (2 ^ b) d u = R))
      case atStart => exact ⟨a, [a], _, _, rfl, rfl, rfl, hown1, hb2, by simp; omega, ha, hLa.out, HPth.out⟩
      case round =>
        clear hown1 hb2
        obtain ⟨u, p, A', c2, rfl, rfl, rfl, hown, hb3, hpl, hun, hlu, hpt⟩ := hrel
        obtain ⟨wi, rfl⟩ : ∃ wi : World, wi = wr := ⟨_, rfl⟩
        by_cases hd : gk = 0
        · subst hd
          have HE := Lib.hid (show p = R by have := hpt.out; rw [pathL, List.append_nil] at this; exact this)
          go_wp2
          go_ret2
          rw [HYR.out, ← HE.out]
          exact givesIB_some hown hwo.size (Up.then_ hwo hb3)
        · obtain ⟨d, rfl⟩ : ∃ d, gk = d + 1 := ⟨gk - 1, by omega⟩
          have hst := HSt.out d u hlu.out
          have hne := HNe.out d u hlu.out
          have hXi := hXo.up hb3
          have hcu := hXi.nbs hun
          have hcl := (hb3.cell (p := ad.add d) (by rw [block_of_add]; exact hlad)).trans (Hlay.out d (by omega))
          have hyi := (hbo.up hb3).two
          have hl7 : lay Q S (2 ^ b) d < 128 := H128.out _ (HLt.out d)
          have hand := i64_and7 (Hb7.out u) hl7
          have hs7 : nb Q u &&& lay Q S (2 ^ b) d < 128 := Nat.lt_of_le_of_lt Nat.and_le_left (Hb7.out u)
          have HPn := Lib.hid (show (p ++ [fst1 (nb Q u &&& lay Q S (2 ^ b) d)]) ++ pathL Q S (2 ^ b) d (fst1 (nb Q u &&& lay Q S (2 ^ b) d)) = R by
            have := hpt.out
            rw [pathL] at this
            rw [List.append_assoc]; exact this)
          have Hs1 := Lib.hid hst.1
          have hvn := hst.2.2
          obtain ⟨v, hv⟩ : ∃ v, v = fst1 (nb Q u &&& lay Q S (2 ^ b) d) := ⟨_, rfl⟩
          rw [← hv] at HPn Hs1 hvn
          obtain ⟨L, hL⟩ : ∃ L, L = lay Q S (2 ^ b) d := ⟨_, rfl⟩
          rw [← hL] at hcl hand hs7 hne hv
          obtain ⟨r, hr⟩ : ∃ r, r = nb Q u := ⟨_, rfl⟩
          rw [← hr] at hcu hand hs7 hne hv
          obtain ⟨s, hs⟩ : ∃ s, s = r &&& L := ⟨_, rfl⟩
          rw [← hs] at hand hs7 hne hv
          have HV := Lib.hid hv
          have hi0 : ((d + 1 : Nat) : Int) - 1 = (d : Int) := by omega
          have hge : decide ((0 : Int) ≤ (d : Int)) = true := decide_eq_true (by omega)
          have hdk : d < k + 1 := by omega
          rw [hi0]
          clear hst hlu hpt hv hL hr hs hi0
          go_wp2_with fail
          go_region_with (refine ((implListOf_fst hs7 hne).mono fun _ _ h => h).mono ?_; rintro e w4 ⟨g4, l4, d4, rfl, hl4, hc4, hb4⟩; rw [← HV.out] at hc4)
          all_goals
            have hU4 : Up wi w4 := Up.then_ (by go_grown) hb4
            have hown4 := hown.up hU4
            have hb5 : Below wo.heap.size wo w4 := hb3.trans (hU4.mono hb3.size)
            have hsz5 := hb5.size
            have hcell := (Blk.new w4 3 #[.int .i64 (v : Int)]).one
            have hpk : p.length ≤ 128 := by omega
            go_wp2_with (at_builtin; refine wpList_push rfl (.tmp 77) (.tmp 79) rfl (v : Int) rfl (hown4.alloc _) ⟨w4.heap.size, 0, none⟩ rfl hcell (by omega) (by simp; omega) ?_; intro A7 c7 w7 hown7 hb7 hg7)
            go_roundg d
            case measure => omega
            case rel => exact ⟨v, p ++ [v], A7, c7, rfl, rfl, by rw [← push_len], hown7.cast push_len (by rw [ints_snoc]), (hb5.alloc hsz5 _).trans hb7, by rw [← push_len]; omega, hvn, Hs1.out, HPn.out⟩
    · have HN1 := Lib.hid (HNx.out k)
      have HG1 := Lib.hid (HGl.out k)
      have HL1 := Lib.hid (HLs.out k)
      have HO1 := Lib.hid (HNo.out k)
      have HLt1 := Lib.hid (HLt.out k)
      have hno2 := Lib.hid (show ∀ j, j < k + 1 → (grow Q S (2 ^ b) j).testBit a = false from fun j hj => by
        rcases Nat.lt_succ_iff_lt_or_eq.1 hj with h' | rfl
        · exact hno.out j h'
        · exact e1)
      have E1 := Lib.hid e1
      have hg3 := HGt.out (k + 1)
      rw [← HP.out] at hg3
      have hla : nb (layL Q S (2 ^ b) k) k = lay Q S (2 ^ b) k := layL_at (Nat.le_refl _)
      have hnx7 : nbrs Q (lay Q S (2 ^ b) k) < 128 := H128.out _ (nbrs_lt h _)
      have hland := i64_and7 hnx7 hS7
      have hdif := i64_dif7 (a := nbrs Q (lay Q S (2 ^ b) k) &&& S) (b := grow Q S (2 ^ b) k) (Nat.lt_of_le_of_lt Nat.and_le_right hS7) hg7
      rw [HN1.out] at hdif
      have hn7 : lay Q S (2 ^ b) (k + 1) < 128 := H128.out _ (HLt.out (k + 1))
      have hor := i64_or7 hg7 hn7
      rw [HG1.out] at hor
      have hLS := Lib.hid (layL_succ Q S (2 ^ b) k)
      have hk128 : k < 128 := by omega
      obtain ⟨G, hG⟩ : ∃ G, G = grow Q S (2 ^ b) k := ⟨_, rfl⟩
      rw [← hG] at E1 HG1 HL1 HO1 hdif hor hgk hkg hg7 ⊢
      obtain ⟨G2, hG2⟩ : ∃ G2, G2 = grow Q S (2 ^ b) (k + 1) := ⟨_, rfl⟩
      rw [← hG2] at HL1 hor hg3
      obtain ⟨L2, hL2⟩ : ∃ L2, L2 = lay Q S (2 ^ b) (k + 1) := ⟨_, rfl⟩
      rw [← hL2] at HL1 HO1 hdif hor hn7 hLS
      obtain ⟨L, hL⟩ : ∃ L, L = lay Q S (2 ^ b) k := ⟨_, rfl⟩
      rw [← hL] at hla hnx7 hland hdif HLt1
      obtain ⟨x, hx⟩ : ∃ x, x = nbrs Q L := ⟨_, rfl⟩
      have HX := Lib.hid hx.symm
      rw [← hx] at hland hdif hnx7
      have HG2e := Lib.hid hG2
      clear e1 hG hG2 hL2 hL hx HN1 HG1 hg2
      have hri := hown.ri
      obtain ⟨ad, rfl, hcl⟩ := hri.nb_at (k := k) (by omega)
      rw [hla] at hcl
      have hlad : ad.block < wo.heap.size := by obtain ⟨_, e, h1, _⟩ := hri.addr (by omega); injection e with e; subst e; exact h1
      have hbo := hbk0.below hb1 (by omega)
      have hyo := hbo.two
      have hlo := hbo.lt
      have hwo : Up w wo := hU0.trans (hb1.mono (by omega))
      have hXo := hX.up hwo
      obtain ⟨m1, hm1⟩ : ∃ m1, m1 = k + 1 := ⟨_, rfl⟩
      have hwk : IntKind.i64.wrap ((m1 : Int) - 1) = (k : Int) := by rw [IntKind.wrap_i64]; omega
      have hwk2 : wrap64 ((m1 : Int) - 1) = (k : Int) := by rw [IntWalk.wrap64_in _ ⟨by omega, by omega⟩]; omega
      have hkm : k < m1 := by omega
      have hm129 : m1 ≤ 129 := by omega
      have Hm1 := Lib.hid hm1
      rw [← hm1] at hown hri ⊢
      clear hm1
      by_cases h0 : L2 = 0
      · have HN := Lib.hid (HO1.out h0 E1.out)
        subst h0
        clear hor HO1 HL1
        go_wp2_with (go_at_call 77; refine (has_eq (by omega) (by omega) E1.out).mono ?_; rintro e w' ⟨rfl, rfl⟩)
        go_wp2
        have hV0 : Up wo wo.drew := (Up.refl _).drew
        refine wp_region_calm (S := (fun w' => Up wo w' ∧ (∀ b o, b < wo.heap.size → w'.cell? ⟨b, o, none⟩ = wo.cell? ⟨b, o, none⟩) ∧ w'.cell? (ad.add k) = some (.int .i64 (L : Nat)))) (by kernel_rfl) (by kernel_rfl) (by exact ⟨hV0, fun _ _ hb => hV0.cell hb, (hV0.cell (by first | assumption | (rw [block_of_add]; assumption))).trans (by assumption)⟩) ?_
        repeat (first | (refine CalmSeq.cons undef (Calm.off (by rfl)) ?_; (try simp only [Act.put, List.setIfInBounds_toArray, List.set_cons_zero, List.set_cons_succ])) | (refine CalmSeq.cons ?_ (Calm.val (by rfl) ?_) ?_; rotate_left; (intro wC hSw; (try dsimp only at hSw); go_simp; done); (try simp only [Act.put, List.setIfInBounds_toArray, List.set_cons_zero, List.set_cons_succ])) | (refine CalmSeq.cons ?_ (Calm.val (by rfl) ?_) ?_; rotate_left; (intro wC hSw; (try dsimp only at hSw); go_simp; with_reducible rfl); (try simp only [Act.put, List.setIfInBounds_toArray, List.set_cons_zero, List.set_cons_succ])) | ((refine CalmSeq.cons ?_ (Calm.call (f := ?_) (args := ?_) (by rfl) ?_ (fun wC hSw => ?_)) ?_; rotate_left 3; (intro wC; go_simp; (refine ⟨?_, ?_⟩ <;> with_reducible rfl)); (go_at_call 78; (with_reducible refine (implNeighbors_is (hXo.up hSw.1) h HLt1.out HX.out).mono ?_); rintro e wD ⟨rfl, hbD⟩; apply And.intro; (with_reducible rfl); (have hUD := Up.then_ hSw.1 hbD; exact ⟨hUD, fun _ _ hb => hUD.cell hb, (hUD.cell (by first | assumption | (rw [block_of_add]; assumption))).trans (by assumption)⟩))); (try simp only [Act.put, List.setIfInBounds_toArray, List.set_cons_zero, List.set_cons_succ])))
        intro w3 hS3
        have hU3 : Up wo w3 := hS3.1
        clear hS3 hV0
        go_wp2
        go_ret2
        rw [HN.out]
        exact givesIB_none (OwnI.nil_ _ _) (Nat.le_refl _) (Up.then_ hwo hU3)
      · have hGl := HL1.out h0
        have hne : ((L2 : Int) == 0) = false := by rw [beq_eq_false_iff_ne]; omega
        clear HO1 HL1
        go_wp2_with (go_at_call 77; refine (has_eq (by omega) (by omega) E1.out).mono ?_; rintro e w' ⟨rfl, rfl⟩)
        go_wp2
        have hV0 : Up wo wo.drew := (Up.refl _).drew
        refine wp_region_calm (S := (fun w' => Up wo w' ∧ (∀ b o, b < wo.heap.size → w'.cell? ⟨b, o, none⟩ = wo.cell? ⟨b, o, none⟩) ∧ w'.cell? (ad.add k) = some (.int .i64 (L : Nat)))) (by kernel_rfl) (by kernel_rfl) (by exact ⟨hV0, fun _ _ hb => hV0.cell hb, (hV0.cell (by first | assumption | (rw [block_of_add]; assumption))).trans (by assumption)⟩) ?_
        repeat (first | (refine CalmSeq.cons undef (Calm.off (by rfl)) ?_; (try simp only [Act.put, List.setIfInBounds_toArray, List.set_cons_zero, List.set_cons_succ])) | (refine CalmSeq.cons ?_ (Calm.val (by rfl) ?_) ?_; rotate_left; (intro wC hSw; (try dsimp only at hSw); go_simp; done); (try simp only [Act.put, List.setIfInBounds_toArray, List.set_cons_zero, List.set_cons_succ])) | (refine CalmSeq.cons ?_ (Calm.val (by rfl) ?_) ?_; rotate_left; (intro wC hSw; (try dsimp only at hSw); go_simp; with_reducible rfl); (try simp only [Act.put, List.setIfInBounds_toArray, List.set_cons_zero, List.set_cons_succ])) | ((refine CalmSeq.cons ?_ (Calm.call (f := ?_) (args := ?_) (by rfl) ?_ (fun wC hSw => ?_)) ?_; rotate_left 3; (intro wC; go_simp; (refine ⟨?_, ?_⟩ <;> with_reducible rfl)); (go_at_call 78; (with_reducible refine (implNeighbors_is (hXo.up hSw.1) h HLt1.out HX.out).mono ?_); rintro e wD ⟨rfl, hbD⟩; apply And.intro; (with_reducible rfl); (have hUD := Up.then_ hSw.1 hbD; exact ⟨hUD, fun _ _ hb => hUD.cell hb, (hUD.cell (by first | assumption | (rw [block_of_add]; assumption))).trans (by assumption)⟩))); (try simp only [Act.put, List.setIfInBounds_toArray, List.set_cons_zero, List.set_cons_succ])))
        intro w3 hS3
        have hU3 : Up wo w3 := hS3.1
        clear hS3 hV0
        replace hown := hown.up hU3
        have hcell := (Blk.new w3 3 #[.int .i64 (L2 : Int)]).one
        have hb3 : Below (w.heap.size + 1) W0 w3 := hb1.trans (hU3.mono (by have := hb1.size; omega))
        have hsz3 : w.heap.size + 1 ≤ w3.heap.size := by have := hb3.size; omega
        go_wp2_with (at_builtin; refine wpList_push rfl (.tmp 48) (.tmp 50) rfl (L2 : Int) rfl (hown.alloc _) ⟨w3.heap.size, 0, none⟩ rfl hcell (by omega) (by simp; omega) ?_; intro A7 c7 w7 hown7 hb7 hg7)
        go_roundg (P + 1 - G2)
        case measure => omega
        case rel => exact ⟨k + 1, A7, c7, by rw [← Hm1.out], by rw [← HG2e.out], hown7.cast (by rw [← Hm1.out]) (by rw [hLS.out, ints_snoc]), (hb3.alloc (by omega) _).trans hb7, by rw [← HG2e.out]; omega, by rw [← HG2e.out]; omega, hno2.out⟩
end Go.Proofs.Ytlcmfangecbdgaa
