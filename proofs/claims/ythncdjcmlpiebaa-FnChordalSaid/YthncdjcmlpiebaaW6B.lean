/- Walks of chapter 6: later neighbours, elimination orders, the program's side. Walks of chapter 6: later neighbours, elimination orders, the reference's side. -/
import Derived.Test.YthncdjcmlpiebaaW5A
import Derived.Test.YthncdjcmlpiebaaW6A
import Derived.Test.YthncdjcmlpiebaaW7A
import Derived.Deep.RegionHeld3
namespace Go.Proofs.Ythncdjcmlpiebaa
open Go.RowKit
theorem setZ_128 {l : List Int} (h : vertsP 7 l) : setZ l < 128 := setZ_lt (n := 7) h.1
set_option maxRecDepth 100000 in
set_option maxHeartbeats 2000000 in
theorem implSetOf_any (B : Option Addr) (m d : Nat) (l : List Int) (w : World) (hL : RI w B m l) (hm : m ≤ 9223372036854775807) :
    Calls Try.prog 85 #[.slice B m d] w fun e w' => e = .returned (.tuple #[.int .i64 (setOfRes l), .bool (decide (vertsP 7 l))]) ∧ w' = w := by
  have HL := Lib.hid hL.1
  go_enter Try.func85, Try.ntmps85
  go_wp2_with fail
  go_loop [4, 9] (fun s i => ∃ k : Nat, k ≤ m ∧ i = .int .i64 k ∧ s = .int .i64 (setZ (l.take k)) ∧ Hid (vertsP 7 (l.take k))) (fun _ i => m - (intOf i).toNat)
  case atStart => exact ⟨0, Nat.zero_le _, rfl, rfl, vertsP_nil 7⟩
  case round =>
    obtain ⟨k, hk, rfl, rfl, hv⟩ := hrel
    have hs7 := setZ_128 hv.out
    by_cases hlt : k < m
    · obtain ⟨b, rfl, _, hcb⟩ := hL.at_ hlt
      have HS := Lib.hid (take_snocI (l := l) (k := k) (by rw [HL.out]; exact hlt))
      have HO := Lib.hid (vertsP_out (n := 7) (l := l) (k := k) (by rw [HL.out]; exact hlt))
      by_cases hin : 0 ≤ l.getD k 0 ∧ l.getD k 0 ≤ 6
      · obtain ⟨x, hx⟩ : ∃ x : Nat, l.getD k 0 = x := ⟨(l.getD k 0).toNat, by omega⟩
        rw [hx] at hcb hin HS HO
        have hx6 : x ≤ 6 := by omega
        have hbit := setZ_bit (l := l.take k) hv.out.1 (x := x)
        have hsh := shl_p2 (k := x) (by omega)
        have hp : p2 x < 128 := Nat.pow_lt_pow_right (by omega) (by omega : x < 7)
        have hor := i64_or7 hs7 hp
        clear hx
        by_cases e1 : (x : Int) ∈ l.take k
        · have Hno := Lib.hid (HO.out fun h => h.2 e1)
          rw [decide_eq_true e1] at hbit
          have H2 := Lib.hid hbit
          clear e1 hbit
          go_wp2_with (first | (go_at_call 62; refine ((within_yes _ _ _ _ hin).mono fun _ _ h => And.intro h.1 h.2.symm).mono ?_; rintro e w' ⟨rfl, rfl⟩) | (go_at_call 52; refine (has_is (by omega) (by omega) H2.out).mono ?_; rintro e w' ⟨rfl, rfl⟩))
          go_ret2
          refine ⟨?_, rfl⟩
          rw [setOfRes, if_neg Hno.out, decide_eq_false Hno.out]; rfl
        · have Hok := Lib.hid (show vertsP 7 (l.take (k + 1)) by rw [HS.out, vertsP_snoc]; exact ⟨hv.out, by omega, e1⟩)
          have Hsum := Lib.hid (show ((setZ (l.take k) ||| p2 x : Nat) : Int) = ((setZ (l.take (k + 1)) : Nat) : Int) by
            rw [HS.out, setZ_snoc]
            have h2 : ((x : Int)).toNat = x := by omega
            rw [h2]; rfl)
          rw [decide_eq_false e1] at hbit
          have H2 := Lib.hid hbit
          clear e1 hbit
          go_wp2_with (first | (go_at_call 62; refine ((within_yes _ _ _ _ hin).mono fun _ _ h => And.intro h.1 h.2.symm).mono ?_; rintro e w' ⟨rfl, rfl⟩) | (go_at_call 52; refine (has_is (by omega) (by omega) H2.out).mono ?_; rintro e w' ⟨rfl, rfl⟩))
          go_round
          case rel => exact ⟨k + 1, by omega, by go_num, by rw [← Hsum.out], Hok.out⟩
          case measure => simp [intOf]; omega
      · have Hno := Lib.hid (HO.out fun h => hin (by omega))
        obtain ⟨z, hz⟩ : ∃ z, z = l.getD k 0 := ⟨_, rfl⟩
        rw [← hz] at hcb hin
        clear hz
        go_wp2_with (go_at_call 62; refine ((within_no _ _ _ _ hin).mono fun _ _ h => And.intro h.1 h.2.symm).mono ?_; rintro e w' ⟨rfl, rfl⟩)
        go_ret2
        refine ⟨?_, rfl⟩
        rw [setOfRes, if_neg Hno.out, decide_eq_false Hno.out]; rfl
    · obtain rfl : k = m := by omega
      have Hl := Lib.hid (List.take_of_length_le (Nat.le_of_eq HL.out))
      go_wp2
      go_ret2
      refine ⟨?_, rfl⟩
      have := hv.out
      rw [Hl.out] at this
      rw [setOfRes, if_pos this, decide_eq_true this, Hl.out]; rfl
theorem RI.drop {w : World} {a : Addr} {n k : Nat} {xs : List Int} (h : RI w (some a) n xs) (hk : k ≤ n) : RI w (some (a.add k)) (n - k) (xs.drop k) := by
  refine ⟨by rw [List.length_drop, h.1], fun hn => ⟨a.add k, rfl, fun j hj => ?_⟩⟩
  obtain ⟨ad, e, _, hc⟩ := h.at_ (k := k + j) (by omega)
  injection e with e
  subst e
  rw [add_of_add, hc]
  simp [List.getD]
theorem idxZ_place {o : List Nat} {v : Nat} (h : v ∈ o) {n : Nat} (ho : natVerts n o) : idxZ (ints o) (v : Int) = (place o v : Nat) :=
  idxZ_at (by rw [ints_len]; exact place_lt h) (by rw [ints_nb, place_at h]) fun j hj => by
    rw [ints_nb]
    have := place_no ho h hj
    omega
theorem ints_drop (o : List Nat) (k : Nat) : (ints o).drop k = ints (o.drop k) := by simp [ints, List.map_drop]
theorem setOf_drop {n : Nat} {o : List Nat} (ho : natVerts n o) (h7 : n ≤ 7) (k : Nat) : setOfRes ((ints o).drop k) = (setN (o.drop k) : Nat) := by
  have hv : vertsP 7 (ints (o.drop k)) := vertsP.mono (nat_verts.2 ⟨fun v hv => ho.1 v (List.mem_of_mem_drop hv), (List.drop_sublist k o).nodup ho.2⟩) h7
  rw [ints_drop, setOfRes, if_pos hv, setN]
theorem slIndex_is {A : Option Addr} {n c : Nat} {v z : Int} {xs : List Int} {w : World} (hA : RI w A n xs) (hn : n ≤ 9223372036854775807) (hz : idxZ xs v = z) :
    Calls Try.prog 86 #[.slice A n c, .int .i64 v] w fun e w' => e = .returned (.int .i64 z) ∧ w' = w :=
  (slIndex_any A n c v xs w hA hn).mono fun _ _ h => ⟨by rw [h.1, hz], h.2.symm⟩
set_option maxRecDepth 100000 in
set_option maxHeartbeats 2000000 in
theorem implLater_any (N v : Int) (A B : Option Addr) (n c m d : Nat) (X l : List Int) (w : World) (hX : RI w A n X) (hL : RI w B m l) (hn : n ≤ 1048576) (hm : m ≤ 1048576) (hmd : m ≤ d) :
    Calls Try.prog 43 #[.agg #[.int .i64 N, .slice A n c], .slice B m d, .int .i64 v] w fun e w' => e = .returned (.int .i64 (laterOf N X l v : Nat)) ∧ Below w.heap.size w w' := by
  have hbk := Blk.new w 26 #[.int .i64 N, .slice A n c]
  rcases isOrder_cases N X l with hg | ⟨hg, k, Q, o, rfl, rfl, rfl, h, ho, hol⟩
  · have H1 := Lib.hid hg
    have HR := Lib.hid (laterOf_no (v := v) hg)
    rw [HR.out]
    clear hg
    go_enter Try.func43, Try.ntmps43
    go_wp2_with fail
    refine (implIsOrder_is (hX.up (by go_grown)) (hL.up (by go_grown)) (by omega) (by omega) hmd H1.out).mono ?_
    rintro e w1 ⟨rfl, hb1⟩
    have hU1 : Up w w1 := Up.then_ (by go_grown) hb1
    go_wp2
    go_ret
    exact ⟨rfl, hU1⟩
  · have e1 : n = k := by have := hX.1; rw [ints_len, h.len] at this; exact this.symm
    have e2 : m = k := by have := hL.1; rw [ints_len, hol] at this; exact this.symm
    subst e1 e2
    have h7 := h.le
    have h1 := h.pos
    have H1 := Lib.hid hg
    have hsub : wrap64 ((m : Int) - 1) = (m : Int) - 1 := IntWalk.wrap64_in _ ⟨by omega, by omega⟩
    obtain ⟨a, rfl, _, _⟩ := hX.addr h.pos
    obtain ⟨b, rfl, _, _⟩ := hL.addr h.pos
    by_cases hv : 0 ≤ v ∧ v < (m : Int)
    · obtain ⟨x, rfl⟩ : ∃ x : Nat, v = x := ⟨v.toNat, by omega⟩
      have hxm : x < m := by omega
      have HR := Lib.hid (show laterOf m (ints Q) (ints o) x = nb Q x &&& setN (o.drop (place o x)) from laterOf_ok hg hxm)
      rw [HR.out]
      have hmem := ho.all hol hxm
      have hpl := place_lt hmem
      rw [hol] at hpl
      have Hix := Lib.hid (idxZ_place hmem ho)
      have Hso := Lib.hid (setOf_drop ho h7 (place o x))
      have hin : 0 ≤ (x : Int) ∧ (x : Int) ≤ (m : Int) - 1 := ⟨by omega, by omega⟩
      have hs7 : setN (o.drop (place o x)) < 128 := Nat.lt_of_lt_of_le (setN_lt fun y hy => ho.1 y (List.mem_of_mem_drop hy)) (Nat.pow_le_pow_right (n := 2) (by omega) h7)
      have hand := i64_and7 (h.nb7 x) hs7
      obtain ⟨p, hp⟩ : ∃ p, p = place o x := ⟨_, rfl⟩
      rw [← hp] at hpl Hix Hso hs7 hand ⊢
      obtain ⟨s, hs⟩ : ∃ s, s = setN (o.drop p) := ⟨_, rfl⟩
      rw [← hs] at Hso hs7 hand ⊢
      clear hg hmem hp hs hv
      go_enter Try.func43, Try.ntmps43
      go_wp2_with fail
      refine (implIsOrder_is (hX.up (by go_grown)) (hL.up (by go_grown)) (by omega) (by omega) hmd H1.out).mono ?_
      rintro e w1 ⟨rfl, hb1⟩
      have hU1 : Up w w1 := Up.then_ (by go_grown) hb1
      replace hX := hX.up hU1
      replace hL := hL.up hU1
      have hyb := (hbk.up hb1).two
      have hcx := hX.nbs hxm
      go_wp2_with (first | (go_at_call 62; refine ((within_yes _ _ _ _ hin).mono fun _ _ h => And.intro h.1 h.2.symm).mono ?_; rintro e w' ⟨rfl, rfl⟩) | (go_at_call 86; refine (slIndex_is hL (by omega) Hix.out).mono ?_; rintro e w' ⟨rfl, rfl⟩) | (go_at_call 85; refine (implSetOf_any _ _ _ _ _ (hL.drop (Nat.le_of_lt hpl)) (by omega)).mono ?_; rintro e w' ⟨rfl, rfl⟩; rw [Hso.out]))
      go_ret
      exact ⟨rfl, hU1⟩
    · have HR := Lib.hid (laterOf_out (X := ints Q) (l := ints o) hv)
      rw [HR.out]
      have hin : ¬ (0 ≤ v ∧ v ≤ (m : Int) - 1) := fun h => hv ⟨h.1, by omega⟩
      clear hg hv
      go_enter Try.func43, Try.ntmps43
      go_wp2_with fail
      refine (implIsOrder_is (hX.up (by go_grown)) (hL.up (by go_grown)) (by omega) (by omega) hmd H1.out).mono ?_
      rintro e w1 ⟨rfl, hb1⟩
      have hU1 : Up w w1 := Up.then_ (by go_grown) hb1
      have hyb := (hbk.up hb1).two
      go_wp2_with (go_at_call 62; refine ((within_no _ _ _ _ hin).mono fun _ _ h => And.intro h.1 h.2.symm).mono ?_; rintro e w' ⟨rfl, rfl⟩)
      go_ret
      exact ⟨rfl, hU1⟩
theorem implLater_is {N v : Int} {A B : Option Addr} {n c m d s : Nat} {X l : List Int} {w : World} (hX : RI w A n X) (hL : RI w B m l) (hn : n ≤ 1048576) (hm : m ≤ 1048576) (hmd : m ≤ d) (hs : laterOf N X l v = s) :
    Calls Try.prog 43 #[.agg #[.int .i64 N, .slice A n c], .slice B m d, .int .i64 v] w fun e w' => e = .returned (.int .i64 (s : Nat)) ∧ Below w.heap.size w w' := by
  subst hs; exact implLater_any N v A B n c m d X l w hX hL hn hm hmd
theorem implClq_isE {A : Option Addr} {n c s : Nat} {Q : List Nat} {w : World} {b : Bool} (hX : RI w A n (ints Q)) (h : GOk n Q) (hs : s < 2 ^ n) (hb : clq Q s = b) :
    Calls Try.prog 51 #[.agg #[.int .i64 n, .slice A n c], .int .i64 s] w fun e w' => e = .returned (.bool b) ∧ Below w.heap.size w w' := by
  subst hb; exact implClq_any A n c s Q w hX h hs
set_option maxRecDepth 100000 in
set_option maxHeartbeats 1000000 in
theorem elimE_any (a b : Addr) (n c d v bG bL : Nat) (Q o : List Nat) (w : World) (hX : RI w (some a) n (ints Q)) (hL : RI w (some b) n (ints o)) (h : GOk n Q) (hg : isOrder n (ints Q) (ints o) = true) (hv : v < n) (hmd : n ≤ d)
    (hG : Blk w bG 26 #[.int .i64 n, .slice (some a) n c]) (hB : Blk w bL 24 #[.slice (some b) n d]) :
    Calls Try.prog 78 #[.int .i64 v, .pointer (some ⟨bG, 0, none⟩), .pointer (some ⟨bL, 0, none⟩)] w fun e w' => e = .returned (.bool (notClq Q o v)) ∧ Below w.heap.size w w' := by
  have hyb := hG.two
  have hlb := hG.lt
  have hy1 := hB.one
  have hl1 := hB.lt
  have h7 := h.le
  have HL := Lib.hid (laterOf_ok hg hv)
  have Hlt := Lib.hid (ltr_lt h o v)
  have HR := Lib.hid (show (!clq Q (ltr Q o v)) = notClq Q o v by rw [notClq, Int.toNat_natCast])
  obtain ⟨s, hs⟩ : ∃ s, s = ltr Q o v := ⟨_, rfl⟩
  rw [← hs] at HL Hlt HR
  obtain ⟨r, hr⟩ : ∃ r, r = clq Q s := ⟨_, rfl⟩
  rw [← hr] at HR
  have Hr := Lib.hid hr.symm
  clear hg hs hr
  go_enter Try.func78, Try.ntmps78
  go_wp2
  have hV0 : Up w w.drew := (Up.refl _).drew
  refine wp_region_calm (S := (fun w' => Up w w' ∧ (∀ b o, b < w.heap.size → w'.cell? ⟨b, o, none⟩ = w.cell? ⟨b, o, none⟩))) (by kernel_rfl) (by kernel_rfl) (by exact ⟨hV0, fun _ _ hb => hV0.cell hb⟩) ?_
  repeat (first | (refine CalmSeq.cons undef (Calm.off (by rfl)) ?_; (try simp only [Act.put, List.setIfInBounds_toArray, List.set_cons_zero, List.set_cons_succ])) | (refine CalmSeq.cons ?_ (Calm.val (by rfl) ?_) ?_; rotate_left; (intro wC hSw; (try dsimp only at hSw); go_simp; done); (try simp only [Act.put, List.setIfInBounds_toArray, List.set_cons_zero, List.set_cons_succ])) | (refine CalmSeq.cons ?_ (Calm.val (by rfl) ?_) ?_; rotate_left; (intro wC hSw; (try dsimp only at hSw); go_simp; with_reducible rfl); (try simp only [Act.put, List.setIfInBounds_toArray, List.set_cons_zero, List.set_cons_succ])) | ((refine CalmSeq.cons ?_ (Calm.call (f := ?_) (args := ?_) (by rfl) ?_ (fun wC hSw => ?_)) ?_; rotate_left 3; (intro wC; go_simp; (refine ⟨?_, ?_⟩ <;> with_reducible rfl)); (go_at_call 43; (with_reducible refine (implLater_is (hX.up hSw.1) (hL.up hSw.1) (by omega) (by omega) hmd HL.out).mono ?_); rintro e wD ⟨rfl, hbD⟩; apply And.intro; (with_reducible rfl); (have hUD := Up.then_ hSw.1 hbD; exact ⟨hUD, fun _ _ hb => hUD.cell hb⟩))); (try simp only [Act.put, List.setIfInBounds_toArray, List.set_cons_zero, List.set_cons_succ])) | ((refine CalmSeq.cons ?_ (Calm.call (f := ?_) (args := ?_) (by rfl) ?_ (fun wC hSw => ?_)) ?_; rotate_left 3; (intro wC; go_simp; (refine ⟨?_, ?_⟩ <;> with_reducible rfl)); (go_at_call 51; (with_reducible refine (implClq_isE (hX.up hSw.1) h Hlt.out Hr.out).mono ?_); rintro e wD ⟨rfl, hbD⟩; apply And.intro; (with_reducible rfl); (have hUD := Up.then_ hSw.1 hbD; exact ⟨hUD, fun _ _ hb => hUD.cell hb⟩))); (try simp only [Act.put, List.setIfInBounds_toArray, List.set_cons_zero, List.set_cons_succ])))
  intro w1 hS1
  have hU1 : Up w w1 := hS1.1
  clear hS1 hV0
  go_wp2
  go_ret
  exact ⟨ret_bool HR.out, hU1⟩
set_option maxRecDepth 100000 in
set_option maxHeartbeats 1000000 in
theorem implIsElimination_any (N : Int) (A B : Option Addr) (n c m d : Nat) (X l : List Int) (w : World) (hX : RI w A n X) (hL : RI w B m l) (hn : n ≤ 1048576) (hm : m ≤ 1048576) (hmd : m ≤ d) :
    Calls Try.prog 30 #[.agg #[.int .i64 N, .slice A n c], .slice B m d] w fun e w' => e = .returned (.bool (isElim N X l)) ∧ Below w.heap.size w w' := by
  have hbk := (Blk.new w 26 #[.int .i64 N, .slice A n c]).alloc (.cells #[.slice B m d] 24)
  have hbl := Blk.new_at (w := w.alloc (.cells #[.int .i64 N, .slice A n c] 26)) (t := 24) (cs := #[.slice B m d]) (g := w.heap.size + 1) (by simp)
  have hyb := hbk.two
  have hyl := hbl.one
  rcases isOrder_cases N X l with hg | ⟨hg, k, Q, o, rfl, rfl, rfl, h, ho, hol⟩
  · have H1 := Lib.hid hg
    have HR := Lib.hid (isElim_no hg)
    rw [HR.out]
    clear hg
    go_enter Try.func30, Try.ntmps30
    go_wp2_with fail
    refine (implIsOrder_is (hX.up (by go_grown)) (hL.up (by go_grown)) (by omega) (by omega) hmd H1.out).mono ?_
    rintro e w1 ⟨rfl, hb1⟩
    have hU1 : Up w w1 := Up.then_ (by go_grown) hb1
    go_wp2
    go_ret
    exact ⟨rfl, hU1⟩
  · have e1 : n = k := by have := hX.1; rw [ints_len, h.len] at this; exact this.symm
    have e2 : m = k := by have := hL.1; rw [ints_len, hol] at this; exact this.symm
    subst e1 e2
    have H1 := Lib.hid hg
    have HR := Lib.hid (show (!(ints o).any (notClq Q o)) = isElim m (ints Q) (ints o) by rw [isElim_ok hg h, elim_any ho hol])
    have h7 := h.le
    have hat := Lib.hid fun j (hj : j < m) => ho.at_ (j := j) (by omega)
    obtain ⟨a, rfl, _, _⟩ := hX.addr h.pos
    obtain ⟨b, rfl, _, _⟩ := hL.addr h.pos
    obtain ⟨r, hr⟩ : ∃ r, r = (ints o).any (notClq Q o) := ⟨_, rfl⟩
    rw [← hr] at HR
    have Hr := Lib.hid hr.symm
    clear hr hg
    have hent := entersF (f := 78) Try.func78 rfl rfl
    go_enter Try.func30, Try.ntmps30
    go_wp2_with fail
    refine (implIsOrder_is (hX.up (by go_grown)) (hL.up (by go_grown)) (by omega) (by omega) hmd H1.out).mono ?_
    rintro e w1 ⟨rfl, hb1⟩
    have hU1 : Up w w1 := Up.then_ (by go_grown) hb1
    replace hX := hX.up hU1
    replace hL := hL.up hU1
    have hbk1 := hbk.up hb1
    have hbl1 := hbl.up hb1
    have hyl1 := hbl1.one
    have P1 : ∀ j, j < m → ∀ w', Up w1 w' → Calls Try.prog 78 (#[.int .i64 ((ints o).getD j 0)] ++ #[.pointer (some ⟨w.heap.size, 0, none⟩), .pointer (some ⟨w.heap.size + 1, 0, none⟩)]) w' fun e w'' => e = .returned (.bool (notClq Q o ((ints o).getD j 0))) ∧ Below w'.heap.size w' w'' := by
      intro j hj w' hU'
      rw [ints_nb]
      exact elimE_any a b m c d (nb o j) _ _ Q o w' (hX.up hU') (hL.up hU') h H1.out (hat.out j hj) hmd (hbk1.up hU') (hbl1.up hU')
    have HP := Lib.hid P1
    clear P1
    go_wp2_with (go_at_call 77; refine ((slContainsFunc_any _ _ (notClq Q o) _ _ _ _ _ hL (by omega) hent HP.out).mono fun _ _ h => And.intro (h.1.trans (by rw [Hr.out])) h.2).mono ?_; rintro e w2 ⟨rfl, hb2⟩)
    go_ret
    exact ⟨ret_bool HR.out, Up.then_ hU1 hb2⟩
theorem implIsElim_is {N : Int} {A B : Option Addr} {n c m d : Nat} {X l : List Int} {w : World} {r : Bool} (hX : RI w A n X) (hL : RI w B m l) (hn : n ≤ 1048576) (hm : m ≤ 1048576) (hmd : m ≤ d) (hr : isElim N X l = r) :
    Calls Try.prog 30 #[.agg #[.int .i64 N, .slice A n c], .slice B m d] w fun e w' => e = .returned (.bool r) ∧ Below w.heap.size w w' := by
  subst hr; exact implIsElimination_any N A B n c m d X l w hX hL hn hm hmd
theorem lex_out {o : List Nat} {w w' : World} {e : Ending} (h : GivesIB (optL (some o)) (some o).isSome w e w') : ∃ A c, e = .returned (.tuple #[.slice A o.length c, .bool true]) ∧ OwnI w' w.heap.size A o.length c (ints o) ∧ Below w.heap.size w w' := by
  obtain ⟨A, c, rfl, hown, hb⟩ := h
  have e := ints_len o
  exact ⟨A, c, by rw [show optL (some o) = ints o from rfl, e]; rfl, hown.cast e rfl, hb⟩
theorem lex_none {w w' : World} {e : Ending} (h : GivesIB (optL none) (none : Option (List Nat)).isSome w e w') : ∃ A c, e = .returned (.tuple #[.slice A 0 c, .bool false]) ∧ Below w.heap.size w w' := by
  obtain ⟨A, c, rfl, _, hb⟩ := h
  exact ⟨A, c, rfl, hb⟩
theorem revL_out {bd : Addr} {m d : Nat} {xs : List Int} {w : World} (hL : RI w (some bd) m xs) (h0 : 0 < m) (hm : m ≤ 1048576) :
    Calls Try.prog 60 #[.slice (some bd) m d] w fun e w' => ∃ A c, e = .returned (.slice A m c) ∧ OwnI w' w.heap.size A m c xs.reverse ∧ Below w.heap.size w w' :=
  (reversed_any bd m d xs w hL h0 hm).mono fun _ _ h => by
    obtain ⟨A, c, rfl, hown, hb⟩ := h
    have e : xs.reverse.length = m := by rw [List.length_reverse]; exact hL.1
    exact ⟨A, c, by rw [e], hown.cast e rfl, hb⟩
set_option maxRecDepth 100000 in
set_option maxHeartbeats 1000000 in
theorem implIsLexElimination_any (N s : Int) (A : Option Addr) (n c : Nat) (X : List Int) (w : World) (hX : RI w A n X) (hn : n ≤ 1048576) :
    Calls Try.prog 32 #[.agg #[.int .i64 N, .slice A n c], .int .i64 s] w fun e w' => e = .returned (.bool (isLexElim N X s)) ∧ Below w.heap.size w w' := by
  have hbk := Blk.new w 26 #[.int .i64 N, .slice A n c]
  have hyb := hbk.two
  have Hc := Lib.hid (implLexOrder_any N s A n c X (w.alloc (.cells #[.int .i64 N, .slice A n c] 26)) (hX.up (by go_grown)) (by omega))
  rcases hlo : lexOf N X s with _ | o
  · have HR := Lib.hid (isLexElim_none hlo)
    rw [hlo] at Hc
    rw [HR.out]
    clear hlo
    go_enter Try.func32, Try.ntmps32
    go_wp2_with fail
    refine (Hc.out.mono fun _ _ h => lex_none h).mono ?_
    rintro e w1 ⟨A1, c1, rfl, hb1⟩
    have hU1 : Up w w1 := Up.then_ (by go_grown) hb1
    go_wp2_with fail
    go_wp2
    have hV0 : Up w1 w1.drew := (Up.refl _).drew
    refine wp_region_calm (S := (fun w' => Up w1 w' ∧ (∀ b o, b < w1.heap.size → w'.cell? ⟨b, o, none⟩ = w1.cell? ⟨b, o, none⟩))) (by kernel_rfl) (by kernel_rfl) (by exact ⟨hV0, fun _ _ hb => hV0.cell hb⟩) ?_
    repeat (first | (refine CalmSeq.cons undef (Calm.off (by rfl)) ?_; (try simp only [Act.put, List.setIfInBounds_toArray, List.set_cons_zero, List.set_cons_succ])) | (refine CalmSeq.cons ?_ (Calm.val (by rfl) ?_) ?_; rotate_left; (intro wC hSw; (try dsimp only at hSw); go_simp; done); (try simp only [Act.put, List.setIfInBounds_toArray, List.set_cons_zero, List.set_cons_succ])) | (refine CalmSeq.cons ?_ (Calm.val (by rfl) ?_) ?_; rotate_left; (intro wC hSw; (try dsimp only at hSw); go_simp; with_reducible rfl); (try simp only [Act.put, List.setIfInBounds_toArray, List.set_cons_zero, List.set_cons_succ])))
    intro w2 hS2
    have hU2 : Up w1 w2 := hS2.1
    clear hS2 hV0
    go_wp2
    go_ret
    exact ⟨rfl, Up.then_ hU1 hU2⟩
  · have HR := Lib.hid (isLexElim_some hlo)
    rw [hlo] at Hc
    rw [HR.out]
    have hlen : 0 < o.length ∧ o.length ≤ 7 := by
      rcases lexOf_cases N X s with ⟨h0, _⟩ | ⟨k, t, Q, rfl, rfl, rfl, h, ht⟩
      · rw [h0] at hlo; cases hlo
      · rw [lexOf_ok h ht] at hlo
        injection hlo with hlo
        have := (lexR_order h ht).2
        rw [hlo] at this
        have := h.pos
        have := h.le
        omega
    obtain ⟨r, hr⟩ : ∃ r, r = isElim N X (ints o).reverse := ⟨_, rfl⟩
    rw [← hr]
    have Hr := Lib.hid hr.symm
    clear hlo hr HR
    go_enter Try.func32, Try.ntmps32
    go_wp2_with fail
    refine (Hc.out.mono fun _ _ h => lex_out h).mono ?_
    rintro e w1 ⟨A1, c1, rfl, hown1, hb1⟩
    have hU1 : Up w w1 := Up.then_ (by go_grown) hb1
    have hbk1 := hbk.up hb1
    have hyb1 := hbk1.two
    have hlb1 := hbk1.lt
    have hX1 := hX.up hU1
    obtain ⟨bd, rfl, _, _⟩ := hown1.ri.addr hlen.1
    go_wp2
    have hV0 : Up w1 w1.drew := (Up.refl _).drew
    go_region_held3 (fun w' => Up w1 w' ∧ (∀ b o, b < w1.heap.size → w'.cell? ⟨b, o, none⟩ = w1.cell? ⟨b, o, none⟩)) (first | exact (by exact ⟨hV2, fun _ _ hb => hV2.cell hb⟩) | exact (by exact ⟨hV1, fun _ _ hb => hV1.cell hb⟩) | exact (by exact ⟨hV0, fun _ _ hb => hV0.cell hb⟩)) (first | (go_at_call 60; refine (revL_out (hown1.ri.up hV0) hlen.1 (by omega)).mono ?_; rintro e w20 ⟨A2, c2, rfl, hown2, hb20⟩; have hV1 := Up.then_ hV0 hb20) | (go_at_call 30; refine (implIsElim_is (hX1.up hV1) hown2.ri hn (by omega) (OwnI.cap hown2).1 Hr.out).mono ?_; rintro e w21 ⟨rfl, hb21⟩; have hV2 := Up.then_ hV1 hb21))
    have hU2 := hV2
    go_wp2
    go_ret
    exact ⟨rfl, Up.then_ hU1 hU2⟩
end Go.Proofs.Ythncdjcmlpiebaa
namespace Go.Proofs.Ythncdjcmlpiebaa
open Go.RowKit
set_option maxRecDepth 100000 in
set_option maxHeartbeats 2000000 in
theorem specLater_any (N v : Int) (A B : Option Addr) (n c m d : Nat) (X l : List Int) (w : World) (hX : RI w A n X) (hL : RI w B m l) (hn : n ≤ 1048576) (hm : m ≤ 1048576) :
    Calls Try.prog 44 #[.agg #[.int .i64 N, .slice A n c], .slice B m d, .int .i64 v] w fun e w' => e = .returned (.int .i64 (laterOf N X l v : Nat)) ∧ Below w.heap.size w w' := by
  have hbk := Blk.new w 26 #[.int .i64 N, .slice A n c]
  rcases isOrder_cases N X l with hg | ⟨hg, k, Q, o, rfl, rfl, rfl, h, ho, hol⟩
  · have H1 := Lib.hid hg
    have HR := Lib.hid (laterOf_no (v := v) hg)
    rw [HR.out]
    clear hg
    go_enter Try.func44, Try.ntmps44
    go_wp2_with fail
    refine (specIsOrder_is (hX.up (by go_grown)) (hL.up (by go_grown)) (by omega) (by omega) H1.out).mono ?_
    rintro e w1 ⟨rfl, hb1⟩
    have hU1 : Up w w1 := Up.then_ (by go_grown) hb1
    go_wp2
    go_ret
    exact ⟨rfl, hU1⟩
  · have e1 : n = k := by have := hX.1; rw [ints_len, h.len] at this; exact this.symm
    have e2 : m = k := by have := hL.1; rw [ints_len, hol] at this; exact this.symm
    subst e1 e2
    have h7 := h.le
    have h1 := h.pos
    have H1 := Lib.hid hg
    obtain ⟨a, rfl, _, _⟩ := hX.addr h.pos
    obtain ⟨b, rfl, _, _⟩ := hL.addr h.pos
    by_cases hv : 0 ≤ v ∧ v < (m : Int)
    · obtain ⟨x, rfl⟩ : ∃ x : Nat, v = x := ⟨v.toNat, by omega⟩
      have hxm : x < m := by omega
      have HR := Lib.hid (show laterOf m (ints Q) (ints o) x = nb Q x &&& setN (o.drop (place o x)) from laterOf_ok hg hxm)
      rw [HR.out]
      have hmem := ho.all hol hxm
      have hpl := place_lt hmem
      rw [hol] at hpl
      have Hat := Lib.hid (show nb o (place o x) = x from place_at hmem)
      have Hne := Lib.hid (fun j (hj : j < place o x) => place_no ho hmem hj)
      have Hdr := Lib.hid (fun i (hi : i < m) => setN_drop ho (i := i) (by omega))
      have Hall := Lib.hid (show setN (o.drop 0) = p2 m - 1 by rw [List.drop_zero]; exact setN_all ho hol)
      have Hlt := Lib.hid (fun i => (Nat.lt_of_lt_of_le (setN_lt (n := m) fun y (hy : y ∈ o.drop i) => ho.1 y (List.mem_of_mem_drop hy)) (Nat.pow_le_pow_right (n := 2) (by omega) h7) : setN (o.drop i) < 128))
      have Hn := Lib.hid (fun i (hi : i < m) => ho.at_ (j := i) (by omega))
      have hb7 := h.nb7 x
      have hsh := shl_p2 (k := m) (by omega)
      have hpp := p2_le h7
      have hp1 := p2_pos m
      have hsub : wrap64 ((p2 m : Int) - 1) = ((p2 m : Int) - 1) := IntWalk.wrap64_in _ ⟨by omega, by omega⟩
      have Hsub := Lib.hid (show ((p2 m - 1 : Nat) : Int) = (p2 m : Int) - 1 by omega)
      have d1 : decide ((x : Int) < 0) = false := decide_eq_false (by omega)
      have d2 : decide ((m : Int) ≤ (x : Int)) = false := decide_eq_false (by omega)
      have d2n : decide (m ≤ x) = false := decide_eq_false (by omega)
      obtain ⟨p, hp⟩ : ∃ p, p = place o x := ⟨_, rfl⟩
      rw [← hp] at hpl Hat Hne ⊢
      clear hg hmem hp hv
      go_enter Try.func44, Try.ntmps44
      go_wp2_with fail
      refine (specIsOrder_is (hX.up (by go_grown)) (hL.up (by go_grown)) (by omega) (by omega) H1.out).mono ?_
      rintro e w1 ⟨rfl, hb1⟩
      have hU1 : Up w w1 := Up.then_ (by go_grown) hb1
      replace hX := hX.up hU1
      replace hL := hL.up hU1
      have hyb := (hbk.up hb1).two
      have hcx := hX.nbs hxm
      go_wp2_with fail
      clear hsh hsub
      go_loop [7, 8] (fun u s => ∃ i : Nat, i ≤ p ∧ s = .int .i64 i ∧ u = .int .i64 (setN (o.drop i) : Nat)) (fun _ s => m - (intOf s).toNat)
      case atStart => exact ⟨0, Nat.zero_le _, rfl, by rw [Hall.out, Hsub.out]⟩
      case round =>
        obtain ⟨i, hi, rfl, rfl⟩ := hrel
        have him : i < m := by omega
        have hci := hL.nbs him
        have hyn := Hn.out i him
        have hs7 := Hlt.out i
        have hdr := Hdr.out i him
        have dl : decide ((i : Int) < (m : Int)) = true := decide_eq_true (by omega)
        by_cases hip : i < p
        · have hne := Hne.out i hip
          obtain ⟨y, hy⟩ : ∃ y, y = nb o i := ⟨_, rfl⟩
          rw [← hy] at hci hyn hdr hne
          clear hy
          have hneI : ((y : Int) != (x : Int)) = true := by rw [bne_iff_ne]; omega
          have hshy := shl_p2 (k := y) (by omega)
          obtain ⟨U, hU⟩ : ∃ U, U = setN (o.drop i) := ⟨_, rfl⟩
          rw [← hU] at hs7 hdr ⊢
          obtain ⟨V, hV⟩ : ∃ V, V = setN (o.drop (i + 1)) := ⟨_, rfl⟩
          rw [← hV] at hdr
          have HV := Lib.hid hV
          clear hU hV
          have hd2 : V + p2 y = U := hdr
          have HS := Lib.hid (show wrap64 ((U : Int) - (p2 y : Int)) = (V : Int) by rw [IntWalk.wrap64_in _ ⟨by omega, by omega⟩]; omega)
          have HS2 := Lib.hid (show (U : Int) - (p2 y : Int) = (V : Int) by omega)
          clear hdr hd2
          go_wp2
          go_round
          case rel => exact ⟨i + 1, by omega, by go_num, by rw [← HV.out]; first | rw [HS.out] | rw [HS2.out]⟩
          case measure => simp [intOf]; omega
        · obtain rfl : i = p := by omega
          rw [Hat.out] at hci
          have hneI : ((x : Int) != (x : Int)) = false := by simp
          have hand := i64_and7 hb7 hs7
          obtain ⟨U, hU⟩ : ∃ U, U = setN (o.drop i) := ⟨_, rfl⟩
          rw [← hU] at hs7 hand ⊢
          have HU := Lib.hid hU
          clear hU hdr
          go_wp2
          go_ret
          rw [← HU.out]
          exact ⟨rfl, hU1⟩
    · have HR := Lib.hid (laterOf_out (X := ints Q) (l := ints o) hv)
      rw [HR.out]
      clear hg
      rcases Int.lt_or_le v 0 with h' | h'
      · have d1 : decide (v < 0) = true := decide_eq_true h'
        clear hv h'
        go_enter Try.func44, Try.ntmps44
        go_wp2_with fail
        refine (specIsOrder_is (hX.up (by go_grown)) (hL.up (by go_grown)) (by omega) (by omega) H1.out).mono ?_
        rintro e w1 ⟨rfl, hb1⟩
        have hU1 : Up w w1 := Up.then_ (by go_grown) hb1
        go_wp2
        go_ret
        exact ⟨rfl, hU1⟩
      · have d1 : decide (v < 0) = false := decide_eq_false (by omega)
        have d2 : decide ((m : Int) ≤ v) = true := decide_eq_true (by omega)
        clear hv h'
        go_enter Try.func44, Try.ntmps44
        go_wp2_with fail
        refine (specIsOrder_is (hX.up (by go_grown)) (hL.up (by go_grown)) (by omega) (by omega) H1.out).mono ?_
        rintro e w1 ⟨rfl, hb1⟩
        have hU1 : Up w w1 := Up.then_ (by go_grown) hb1
        have hyb := (hbk.up hb1).two
        go_wp2
        go_ret
        exact ⟨rfl, hU1⟩
theorem specLater_is {N v : Int} {A B : Option Addr} {n c m d s : Nat} {X l : List Int} {w : World} (hX : RI w A n X) (hL : RI w B m l) (hn : n ≤ 1048576) (hm : m ≤ 1048576) (hs : laterOf N X l v = s) :
    Calls Try.prog 44 #[.agg #[.int .i64 N, .slice A n c], .slice B m d, .int .i64 v] w fun e w' => e = .returned (.int .i64 (s : Nat)) ∧ Below w.heap.size w w' := by
  subst hs; exact specLater_any N v A B n c m d X l w hX hL hn hm
theorem specClq_isE {A : Option Addr} {n c s : Nat} {Q : List Nat} {w : World} {b : Bool} (hX : RI w A n (ints Q)) (h : GOk n Q) (hs : s < 2 ^ n) (hb : clq Q s = b) :
    Calls Try.prog 54 #[.agg #[.int .i64 n, .slice A n c], .int .i64 s] w fun e w' => e = .returned (.bool b) ∧ Below w.heap.size w w' := by
  subst hb; exact specIsClique_ok hX h hs
set_option maxRecDepth 100000 in
set_option maxHeartbeats 2000000 in
theorem specIsElimination_any (N : Int) (A B : Option Addr) (n c m d : Nat) (X l : List Int) (w : World) (hX : RI w A n X) (hL : RI w B m l) (hn : n ≤ 1048576) (hm : m ≤ 1048576) :
    Calls Try.prog 42 #[.agg #[.int .i64 N, .slice A n c], .slice B m d] w fun e w' => e = .returned (.bool (isElim N X l)) ∧ Below w.heap.size w w' := by
  have hbk := Blk.new w 26 #[.int .i64 N, .slice A n c]
  rcases isOrder_cases N X l with hg | ⟨hg, k, Q, o, rfl, rfl, rfl, h, ho, hol⟩
  · have H1 := Lib.hid hg
    have HR := Lib.hid (isElim_no hg)
    rw [HR.out]
    clear hg
    go_enter Try.func42, Try.ntmps42
    go_wp2_with fail
    refine (specIsOrder_is (hX.up (by go_grown)) (hL.up (by go_grown)) (by omega) (by omega) H1.out).mono ?_
    rintro e w1 ⟨rfl, hb1⟩
    have hU1 : Up w w1 := Up.then_ (by go_grown) hb1
    go_wp2
    go_ret
    exact ⟨rfl, hU1⟩
  · have e1 : n = k := by have := hX.1; rw [ints_len, h.len] at this; exact this.symm
    have e2 : m = k := by have := hL.1; rw [ints_len, hol] at this; exact this.symm
    subst e1 e2
    have H1 := Lib.hid hg
    have HR := Lib.hid (show elimAll Q o m = isElim m (ints Q) (ints o) from (isElim_ok hg h).symm)
    have h7 := h.le
    have Hlt := Lib.hid (fun v => ltr_lt h o v)
    have HL := Lib.hid (fun v (hv : v < m) => laterOf_ok hg hv)
    have Hno := Lib.hid (fun v (hv : v < m) (e : clq Q (ltr Q o v) = false) => elimAll_no hv e)
    have Hyes := Lib.hid (elim_all (Q := Q) (o := o) (n := m))
    rw [← HR.out]
    clear hg HR
    go_enter Try.func42, Try.ntmps42
    go_wp2_with fail
    refine (specIsOrder_is (hX.up (by go_grown)) (hL.up (by go_grown)) (by omega) (by omega) H1.out).mono ?_
    rintro e w1 ⟨rfl, hb1⟩
    have hU1 : Up w w1 := Up.then_ (by go_grown) hb1
    replace hX := hX.up hU1
    replace hL := hL.up hU1
    have hbk1 := hbk.up hb1
    go_wp2_with fail
    go_loopw [5] (fun s wr => ∃ v : Nat, v ≤ m ∧ s = .int .i64 v ∧ Up w1 wr ∧ Hid (∀ u, u < v → clq Q (ltr Q o u) = true)) (fun s _ => m - (intOf s).toNat)
    case atStart => exact ⟨0, Nat.zero_le _, rfl, Up.refl _, fun u hu => absurd hu (by omega)⟩
    case round =>
      obtain ⟨v, hv, rfl, hb, hall⟩ := hrel
      obtain ⟨wo, rfl⟩ : ∃ wo : World, wo = wr := ⟨_, rfl⟩
      have hyo := (hbk1.up hb).two
      have hlo := (hbk1.up hb).lt
      by_cases hvm : v < m
      · have HLv := Lib.hid (HL.out v hvm)
        have Hsl := Lib.hid (Hlt.out v)
        have hNo := Lib.hid (Hno.out v hvm)
        have hXo := hX.up hb
        have hLo := hL.up hb
        rcases Bool.eq_false_or_eq_true (clq Q (ltr Q o v)) with e1 | e1
        · have E1 := Lib.hid e1
          have HA := Lib.hid (show ∀ u, u < v + 1 → clq Q (ltr Q o u) = true from fun u hu => by
            rcases Nat.lt_succ_iff_lt_or_eq.1 hu with h' | rfl
            · exact hall.out u h'
            · exact e1)
          obtain ⟨s, hs⟩ : ∃ s, s = ltr Q o v := ⟨_, rfl⟩
          rw [← hs] at HLv Hsl E1
          clear e1 hs hNo
          go_wp2
          have hV0 : Up wo wo.drew := (Up.refl _).drew
          refine wp_region_calm (S := (fun w' => Up wo w' ∧ (∀ b o, b < wo.heap.size → w'.cell? ⟨b, o, none⟩ = wo.cell? ⟨b, o, none⟩))) (by kernel_rfl) (by kernel_rfl) (by exact ⟨hV0, fun _ _ hb => hV0.cell hb⟩) ?_
          repeat (first | (refine CalmSeq.cons undef (Calm.off (by rfl)) ?_; (try simp only [Act.put, List.setIfInBounds_toArray, List.set_cons_zero, List.set_cons_succ])) | (refine CalmSeq.cons ?_ (Calm.val (by rfl) ?_) ?_; rotate_left; (intro wC hSw; (try dsimp only at hSw); go_simp; done); (try simp only [Act.put, List.setIfInBounds_toArray, List.set_cons_zero, List.set_cons_succ])) | (refine CalmSeq.cons ?_ (Calm.val (by rfl) ?_) ?_; rotate_left; (intro wC hSw; (try dsimp only at hSw); go_simp; with_reducible rfl); (try simp only [Act.put, List.setIfInBounds_toArray, List.set_cons_zero, List.set_cons_succ])) | ((refine CalmSeq.cons ?_ (Calm.call (f := ?_) (args := ?_) (by rfl) ?_ (fun wC hSw => ?_)) ?_; rotate_left 3; (intro wC; go_simp; (refine ⟨?_, ?_⟩ <;> with_reducible rfl)); (go_at_call 44; (with_reducible refine (specLater_is (hXo.up hSw.1) (hLo.up hSw.1) hn hm HLv.out).mono ?_); rintro e wD ⟨rfl, hbD⟩; apply And.intro; (with_reducible rfl); (have hUD := Up.then_ hSw.1 hbD; exact ⟨hUD, fun _ _ hb => hUD.cell hb⟩))); (try simp only [Act.put, List.setIfInBounds_toArray, List.set_cons_zero, List.set_cons_succ])) | ((refine CalmSeq.cons ?_ (Calm.call (f := ?_) (args := ?_) (by rfl) ?_ (fun wC hSw => ?_)) ?_; rotate_left 3; (intro wC; go_simp; (refine ⟨?_, ?_⟩ <;> with_reducible rfl)); (go_at_call 54; (with_reducible refine (specClq_isE (hXo.up hSw.1) h Hsl.out E1.out).mono ?_); rintro e wD ⟨rfl, hbD⟩; apply And.intro; (with_reducible rfl); (have hUD := Up.then_ hSw.1 hbD; exact ⟨hUD, fun _ _ hb => hUD.cell hb⟩))); (try simp only [Act.put, List.setIfInBounds_toArray, List.set_cons_zero, List.set_cons_succ])))
          intro w2 hS2
          have hU2 : Up wo w2 := hS2.1
          clear hS2 hV0
          go_wp2
          go_roundw
          case rel => exact ⟨v + 1, by omega, by go_num, Up.then_ hb hU2, HA⟩
          case measure => simp [intOf]; omega
        · have E1 := Lib.hid e1
          have HN := Lib.hid (hNo.out e1)
          obtain ⟨s, hs⟩ : ∃ s, s = ltr Q o v := ⟨_, rfl⟩
          rw [← hs] at HLv Hsl E1
          clear e1 hs hNo
          go_wp2
          have hV0 : Up wo wo.drew := (Up.refl _).drew
          refine wp_region_calm (S := (fun w' => Up wo w' ∧ (∀ b o, b < wo.heap.size → w'.cell? ⟨b, o, none⟩ = wo.cell? ⟨b, o, none⟩))) (by kernel_rfl) (by kernel_rfl) (by exact ⟨hV0, fun _ _ hb => hV0.cell hb⟩) ?_
          repeat (first | (refine CalmSeq.cons undef (Calm.off (by rfl)) ?_; (try simp only [Act.put, List.setIfInBounds_toArray, List.set_cons_zero, List.set_cons_succ])) | (refine CalmSeq.cons ?_ (Calm.val (by rfl) ?_) ?_; rotate_left; (intro wC hSw; (try dsimp only at hSw); go_simp; done); (try simp only [Act.put, List.setIfInBounds_toArray, List.set_cons_zero, List.set_cons_succ])) | (refine CalmSeq.cons ?_ (Calm.val (by rfl) ?_) ?_; rotate_left; (intro wC hSw; (try dsimp only at hSw); go_simp; with_reducible rfl); (try simp only [Act.put, List.setIfInBounds_toArray, List.set_cons_zero, List.set_cons_succ])) | ((refine CalmSeq.cons ?_ (Calm.call (f := ?_) (args := ?_) (by rfl) ?_ (fun wC hSw => ?_)) ?_; rotate_left 3; (intro wC; go_simp; (refine ⟨?_, ?_⟩ <;> with_reducible rfl)); (go_at_call 44; (with_reducible refine (specLater_is (hXo.up hSw.1) (hLo.up hSw.1) hn hm HLv.out).mono ?_); rintro e wD ⟨rfl, hbD⟩; apply And.intro; (with_reducible rfl); (have hUD := Up.then_ hSw.1 hbD; exact ⟨hUD, fun _ _ hb => hUD.cell hb⟩))); (try simp only [Act.put, List.setIfInBounds_toArray, List.set_cons_zero, List.set_cons_succ])) | ((refine CalmSeq.cons ?_ (Calm.call (f := ?_) (args := ?_) (by rfl) ?_ (fun wC hSw => ?_)) ?_; rotate_left 3; (intro wC; go_simp; (refine ⟨?_, ?_⟩ <;> with_reducible rfl)); (go_at_call 54; (with_reducible refine (specClq_isE (hXo.up hSw.1) h Hsl.out E1.out).mono ?_); rintro e wD ⟨rfl, hbD⟩; apply And.intro; (with_reducible rfl); (have hUD := Up.then_ hSw.1 hbD; exact ⟨hUD, fun _ _ hb => hUD.cell hb⟩))); (try simp only [Act.put, List.setIfInBounds_toArray, List.set_cons_zero, List.set_cons_succ])))
          intro w2 hS2
          have hU2 : Up wo w2 := hS2.1
          clear hS2 hV0
          go_wp2
          go_ret
          rw [HN.out]
          exact ⟨rfl, Up.then_ (Up.then_ hU1 hb) hU2⟩
      · obtain rfl : v = m := by omega
        have HN := Lib.hid (Hyes.out hall.out)
        go_wp2
        go_ret
        rw [HN.out]
        exact ⟨rfl, Up.then_ hU1 hb⟩
theorem specIsElim_is {N : Int} {A B : Option Addr} {n c m d : Nat} {X l : List Int} {w : World} {r : Bool} (hX : RI w A n X) (hL : RI w B m l) (hn : n ≤ 1048576) (hm : m ≤ 1048576) (hr : isElim N X l = r) :
    Calls Try.prog 42 #[.agg #[.int .i64 N, .slice A n c], .slice B m d] w fun e w' => e = .returned (.bool r) ∧ Below w.heap.size w w' := by
  subst hr; exact specIsElimination_any N A B n c m d X l w hX hL hn hm
theorem revS_out {bd : Addr} {m d : Nat} {xs : List Int} {w : World} (hL : RI w (some bd) m xs) (hm : m ≤ 1048575) :
    Calls Try.prog 61 #[.slice (some bd) m d] w fun e w' => ∃ A c, e = .returned (.slice A m c) ∧ OwnI w' w.heap.size A m c xs.reverse ∧ Below w.heap.size w w' :=
  (l6Reverse_any bd m d xs w hL hm).mono fun _ _ h => by
    obtain ⟨A, c, rfl, hown, hb⟩ := h
    have e : xs.reverse.length = m := by rw [List.length_reverse]; exact hL.1
    exact ⟨A, c, by rw [e], hown.cast e rfl, hb⟩
set_option maxRecDepth 100000 in
set_option maxHeartbeats 1000000 in
theorem specIsLexElimination_any (N s : Int) (A : Option Addr) (n c : Nat) (X : List Int) (w : World) (hX : RI w A n X) (hn : n ≤ 1048576) :
    Calls Try.prog 46 #[.agg #[.int .i64 N, .slice A n c], .int .i64 s] w fun e w' => e = .returned (.bool (isLexElim N X s)) ∧ Below w.heap.size w w' := by
  have hbk := Blk.new w 26 #[.int .i64 N, .slice A n c]
  have hyb := hbk.two
  have Hc := Lib.hid (specLexOrder_any N s A n c X (w.alloc (.cells #[.int .i64 N, .slice A n c] 26)) (hX.up (by go_grown)) (by omega))
  rcases hlo : lexOf N X s with _ | o
  · have HR := Lib.hid (isLexElim_none hlo)
    rw [hlo] at Hc
    rw [HR.out]
    clear hlo
    go_enter Try.func46, Try.ntmps46
    go_wp2_with fail
    refine (Hc.out.mono fun _ _ h => lex_none h).mono ?_
    rintro e w1 ⟨A1, c1, rfl, hb1⟩
    have hU1 : Up w w1 := Up.then_ (by go_grown) hb1
    go_wp2_with fail
    go_wp2
    have hV0 : Up w1 w1.drew := (Up.refl _).drew
    refine wp_region_calm (S := (fun w' => Up w1 w' ∧ (∀ b o, b < w1.heap.size → w'.cell? ⟨b, o, none⟩ = w1.cell? ⟨b, o, none⟩))) (by kernel_rfl) (by kernel_rfl) (by exact ⟨hV0, fun _ _ hb => hV0.cell hb⟩) ?_
    repeat (first | (refine CalmSeq.cons undef (Calm.off (by rfl)) ?_; (try simp only [Act.put, List.setIfInBounds_toArray, List.set_cons_zero, List.set_cons_succ])) | (refine CalmSeq.cons ?_ (Calm.val (by rfl) ?_) ?_; rotate_left; (intro wC hSw; (try dsimp only at hSw); go_simp; done); (try simp only [Act.put, List.setIfInBounds_toArray, List.set_cons_zero, List.set_cons_succ])) | (refine CalmSeq.cons ?_ (Calm.val (by rfl) ?_) ?_; rotate_left; (intro wC hSw; (try dsimp only at hSw); go_simp; with_reducible rfl); (try simp only [Act.put, List.setIfInBounds_toArray, List.set_cons_zero, List.set_cons_succ])))
    intro w2 hS2
    have hU2 : Up w1 w2 := hS2.1
    clear hS2 hV0
    go_wp2
    go_ret
    exact ⟨rfl, Up.then_ hU1 hU2⟩
  · have HR := Lib.hid (isLexElim_some hlo)
    rw [hlo] at Hc
    rw [HR.out]
    have hlen : 0 < o.length ∧ o.length ≤ 7 := by
      rcases lexOf_cases N X s with ⟨h0, _⟩ | ⟨k, t, Q, rfl, rfl, rfl, h, ht⟩
      · rw [h0] at hlo; cases hlo
      · rw [lexOf_ok h ht] at hlo
        injection hlo with hlo
        have := (lexR_order h ht).2
        rw [hlo] at this
        have := h.pos
        have := h.le
        omega
    obtain ⟨r, hr⟩ : ∃ r, r = isElim N X (ints o).reverse := ⟨_, rfl⟩
    rw [← hr]
    have Hr := Lib.hid hr.symm
    clear hlo hr HR
    go_enter Try.func46, Try.ntmps46
    go_wp2_with fail
    refine (Hc.out.mono fun _ _ h => lex_out h).mono ?_
    rintro e w1 ⟨A1, c1, rfl, hown1, hb1⟩
    have hU1 : Up w w1 := Up.then_ (by go_grown) hb1
    have hbk1 := hbk.up hb1
    have hyb1 := hbk1.two
    have hlb1 := hbk1.lt
    have hX1 := hX.up hU1
    obtain ⟨bd, rfl, _, _⟩ := hown1.ri.addr hlen.1
    go_wp2
    have hV0 : Up w1 w1.drew := (Up.refl _).drew
    go_region_held3 (fun w' => Up w1 w' ∧ (∀ b o, b < w1.heap.size → w'.cell? ⟨b, o, none⟩ = w1.cell? ⟨b, o, none⟩)) (first | exact (by exact ⟨hV2, fun _ _ hb => hV2.cell hb⟩) | exact (by exact ⟨hV1, fun _ _ hb => hV1.cell hb⟩) | exact (by exact ⟨hV0, fun _ _ hb => hV0.cell hb⟩)) (first | (go_at_call 61; refine (revS_out (hown1.ri.up hV0) (by omega)).mono ?_; rintro e w20 ⟨A2, c2, rfl, hown2, hb20⟩; have hV1 := Up.then_ hV0 hb20) | (go_at_call 42; refine (specIsElim_is (hX1.up hV1) hown2.ri hn (by omega) Hr.out).mono ?_; rintro e w21 ⟨rfl, hb21⟩; have hV2 := Up.then_ hV1 hb21))
    have hU2 := hV2
    go_wp2
    go_ret
    exact ⟨rfl, Up.then_ hU1 hU2⟩
end Go.Proofs.Ythncdjcmlpiebaa
