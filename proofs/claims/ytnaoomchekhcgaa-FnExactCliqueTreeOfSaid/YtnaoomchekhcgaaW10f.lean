/- Walks of chapter 10: the reference's search for orders of cliques. -/
import Derived.Test.YtnaoomchekhcgaaW10d
import Derived.Test.YtnaoomchekhcgaaW7f
import Derived.Test.YtnaoomchekhcgaaW6b
import Derived.Deep.RegionLaw
import Derived.Test.YtnaoomchekhcgaaW6
namespace Go.Proofs.Ytnaoomchekhcgaa
open Go.RowKit
theorem head_nil {xs ys : List (List Nat)} (h : xs = []) : (xs ++ ys).head?.getD [] = ys.head?.getD [] := by rw [h]; rfl
theorem head_cons {xs ys : List (List Nat)} (h : 0 < xs.length) : (xs ++ ys).head?.getD [] = xs.head?.getD [] := by
  rcases xs with _ | ⟨a, t⟩
  · simp at h
  · rfl
theorem stepO {xs ys : List (List Nat)} {nk most r : Nat} (h : xs.length = nk) (hn : nk < most) (hr : r = most - nk) : nk + min ys.length r = min (xs ++ ys).length most := by
  rw [List.length_append, h, hr]; omega
/-- What the reference's search gives: the first order, and how many there are, up to most. -/
def GivesO (os : List (List Nat)) (most base : Nat) (w : World) (e : Ending) (w' : World) : Prop :=
  ∃ A c, e = .returned (.tuple #[.slice A (os.head?.getD []).length c, .int .i64 (min os.length most : Nat)]) ∧ OwnI w' base A (os.head?.getD []).length c (ints (os.head?.getD [])) ∧ Below w.heap.size w w'
def cliqOrds (N : Int) (X : List Int) : List (List Nat) := if (elimOf N X).isSome then ords (maxCliquesOf N X) (maxCliquesOf N X).length [] else []
theorem cliqOrds_no {N : Int} {X : List Int} (h : (elimOf N X).isSome = false) : cliqOrds N X = [] := by rw [cliqOrds, h]; rfl
theorem cliqOrds_yes {N : Int} {X : List Int} (h : (elimOf N X).isSome = true) : cliqOrds N X = ords (maxCliquesOf N X) (maxCliquesOf N X).length [] := by rw [cliqOrds, if_pos h]
/-- A chordal graph is a graph, and has cliques. -/
theorem chordal_cases {N : Int} {X : List Int} (h : (elimOf N X).isSome = true) : ∃ (n : Nat) (Q : List Nat), N = n ∧ X = ints Q ∧ GOk n Q ∧ maxCliquesOf N X = maxCliques Q n := by
  rcases isGraph_cases N X with hg | ⟨k, Q, rfl, rfl, hk⟩
  · rw [elimOf_no hg] at h; cases h
  · exact ⟨k, Q, rfl, rfl, hk, maxCliquesOf_ok hk⟩
theorem cliques_ok {N : Int} {X : List Int} (h : (elimOf N X).isSome = true) : (∀ x ∈ maxCliquesOf N X, x < 2 ^ 7) ∧ 0 < (maxCliquesOf N X).length ∧ (maxCliquesOf N X).length ≤ 128 := by
  obtain ⟨n, Q, rfl, rfl, hk, e⟩ := chordal_cases h
  rw [e]
  exact ⟨fun x hx => hk.n7 (maxCliques_lt hx), maxCliques_pos hk, maxCliques_len Q hk.le⟩
set_option maxRecDepth 100000 in
set_option maxHeartbeats 4000000 in
theorem l10Search_any (m ca : Nat) (A : Option Addr) (L : List Nat) (hLm : L.length = m) (hL7 : ∀ x ∈ L, x < 2 ^ 7) (hm : m ≤ 128) (base : Nat) : ∀ (f : Nat) (d : List Nat) (bd : Addr) (c most : Nat) (w : World), d.length + f = m → (∀ x ∈ d, x < 2 ^ 7) → 1 ≤ most → most ≤ 1000 → OwnI w base (some bd) d.length c (ints d) → base ≤ w.heap.size → RI w A m (ints L) →
    Calls Try.prog 45 #[.slice A m ca, .slice (some bd) d.length c, .int .i64 most] w (GivesO (ords L f d) most base w) := by
  intro f
  induction f with
  | zero =>
    intro d bd c most w hf hd hm1 hm2 hown hbase hA
    have heq : ((d.length : Int) == (m : Int)) = true := by rw [beq_iff_eq]; omega
    have hmin : min [d].length most = 1 := by simp; omega
    have HM := Lib.hid hmin
    clear hmin hd hf
    go_enter Try.func45, Try.ntmps45
    go_wp2
    go_ret2
    exact ⟨some bd, c, by rw [ords, HM.out]; rfl, hown, Below.refl _ _⟩
  | succ f ih =>
    intro d bd c most w hf hd hm1 hm2 hown hbase hA
    have hne : ((d.length : Int) == (m : Int)) = false := by rw [beq_eq_false_iff_ne]; omega
    have Ih := Lib.hid ih
    have Hd := Lib.hid hd
    have HALL := Lib.hid (show ordsK L f d m = ords L (f + 1) d by rw [← hLm]; exact ords_all L f d)
    have HPRE := Lib.hid (fun k => ordsK_pre L f d (k := k) m)
    have HB := Lib.hid (nb_lt_all (Nat.two_pow_pos 7) hL7)
    clear ih hd hL7
    have hown00 := OwnI.made (base := w.heap.size) w (Nat.le_refl _)
    go_enter Try.func45, Try.ntmps45
    go_wp2_with fail
    go_loopw [8, 9, 10] (fun s nn i wr => ∃ (k nk : Nat) (A1 : Option Addr) (c1 : Nat) (q : List Nat), k ≤ m ∧ i = .int .i64 k ∧ nn = .int .i64 (nk : Nat) ∧ s = .slice A1 q.length c1 ∧ OwnI wr base A1 q.length c1 (ints q) ∧ Below w.heap.size w wr ∧ nk ≤ most ∧ Hid (nk = min (ordsK L f d k).length most ∧ q = (ordsK L f d k).head?.getD [])) (fun _ _ i _ => m - (intOf i).toNat)
    case atStart => exact ⟨0, 0, some ⟨w.heap.size, 0, none⟩, 0, [], Nat.zero_le _, rfl, rfl, rfl, hown00.more hbase, by go_grown, Nat.zero_le _, by simp [ordsK], rfl⟩
    case round =>
      clear hown00
      obtain ⟨k, nk, A1, c1, q, hk, rfl, rfl, rfl, hownq, hb, hnk, hH⟩ := hrel
      obtain ⟨wo, rfl⟩ : ∃ wo : World, wo = wr := ⟨_, rfl⟩
      by_cases hkt : k < m
      · by_cases hnt : nk < most
        · have d1 : decide ((nk : Int) < (most : Int)) = true := decide_eq_true (by omega)
          have HLEN := Lib.hid (show (ordsK L f d k).length = nk by have := hH.out.1; omega)
          have hArr := hA.up hb
          obtain ⟨a, rfl, hca⟩ := hArr.ints_at hkt
          have habs : a.block < wo.heap.size := by have := World.block_lt_of_cell? wo _ hca; rwa [block_of_add] at this
          have hx7 : nb L k < 128 := HB.out k
          have HOFF := Lib.hid (ordsK_off (L := L) (f := f) (k := k) (l := d))
          have HON := Lib.hid (ordsK_on (L := L) (f := f) (k := k) (l := d))
          have HMAY := Lib.hid (show mayC d (nb L k) = (!decide (nb L k ∈ d) && fol (d ++ [nb L k])) from rfl)
          obtain ⟨x, hx⟩ : ∃ x, x = nb L k := ⟨_, rfl⟩
          rw [← hx] at hca hx7 HMAY
          have HX := Lib.hid hx
          clear hx
          have hownr := hown.up hb
          rcases Bool.eq_false_or_eq_true (decide (x ∈ d)) with e1 | e1
          · have HO := Lib.hid (HOFF.out (by rw [← HX.out, HMAY.out, e1]; rfl))
            rw [← dec_mem] at e1
            have E1 := Lib.hid e1
            clear e1
            go_wp2_with fail
            refine (l8Has_is hownr.ri (by omega) E1.out).mono ?_
            rintro e w3 ⟨rfl, rfl⟩
            go_wp2
            go_roundw
            case rel => exact ⟨k + 1, nk, A1, c1, q, by omega, by go_num, rfl, rfl, hownq, hb, hnk, by rw [HO.out]; exact hH.out⟩
            case measure => simp [intOf]; omega
          · have HNI := Lib.hid e1
            rw [← dec_mem] at e1
            have E1 := Lib.hid e1
            clear e1
            have hE := OwnI.made (base := wo.heap.size) wo (Nat.le_refl _)
            have hdl : d.length ≤ 1048576 := by omega
            have hdm : d.length + 1 ≤ 9223372036854775806 := by omega
            have hfx : d.length + 1 + f = m := by omega
            have hbo : base ≤ wo.heap.size := Nat.le_trans hbase hb.size
            have HLen := Lib.hid (show (d ++ [x]).length = d.length + 1 from push_len.symm)
            have Hdx := Lib.hid (show ∀ y ∈ d ++ [x], y < 2 ^ 7 from fun y hy => by
              rcases List.mem_append.1 hy with hy | hy
              · exact Hd.out y hy
              · obtain rfl : y = x := by simpa using hy
                exact hx7)
            have hdl1 : d.length + 1 ≤ 1048576 := by omega
            go_wp2_with fail
            refine (l8Has_is hownr.ri (by omega) E1.out).mono ?_
            rintro e w3 ⟨rfl, rfl⟩
            go_wp2_with fail
            have hcA : ∀ o, (wo.alloc o).cell? (a.add k) = some (.int .i64 (x : Int)) := fun o => (World.cell?_alloc_lt wo o _ (by rw [block_of_add]; exact habs)).trans hca
            have hE2 := (hE.alloc (.cells #[.int .i64 (x : Int)] 3)).drew
            have hE3 : OwnI ((wo.alloc (.cells #[.int .i64 (x : Int)] 3)).alloc (.cells #[] 3)).drew wo.heap.size (some ⟨wo.heap.size + 1, 0, none⟩) 0 0 [] := (OwnI.made_at (by simp) (by omega)).drew
            have hX2 : Blk ((wo.alloc (.cells #[] 3)).alloc (.cells #[.int .i64 (x : Int)] 3)).drew (wo.heap.size + 1) 3 #[.int .i64 (x : Int)] := (Blk.new_at (by simp)).drew
            have hX3 : Blk ((wo.alloc (.cells #[.int .i64 (x : Int)] 3)).alloc (.cells #[] 3)).drew wo.heap.size 3 #[.int .i64 (x : Int)] := ((Blk.new wo 3 _).alloc _).drew
            have hD1 := (hownr.ri.alloc (.cells #[] 3)).drew
            have hD2 := ((hownr.ri.alloc (.cells #[] 3)).alloc (.cells #[.int .i64 (x : Int)] 3)).drew
            have hD3 := ((hownr.ri.alloc (.cells #[.int .i64 (x : Int)] 3)).alloc (.cells #[] 3)).drew
            replace hE := hE.drew
            go_region_law (first
              | (refine step_append_new rfl (.tmp 38) (.tmp 39) rfl rfl hE rfl hD1 hdl (by simp) ?_; intro A3 c3 w3 hown3 hb3 hg3; have hX3' := (Blk.new w3 3 #[.int .i64 (x : Int)]).ri (xs := [(x : Int)]) rfl; have hO3 := hown3.alloc (.cells #[.int .i64 (x : Int)] 3); have hU3 : Up wo w3 := Below.trans (by go_grown) hb3; have hc3 := (hU3.cell (p := a.add k) (by rw [block_of_add]; exact habs)).trans hca)
              | (refine step_append_new rfl (.tmp 38) (.tmp 39) rfl rfl hE2 rfl hD2 hdl (by simp; omega) ?_; intro A3 c3 w3 hown3 hb3 hg3; have hX3' := (hX2.grown hg3 (by simp [Value.ownBlock])).ri (xs := [(x : Int)]) rfl; have hO3 := hown3; have hU3 : Up wo w3 := Below.trans (by go_grown) hb3; have hc3 := (hU3.cell (p := a.add k) (by rw [block_of_add]; exact habs)).trans hca)
              | (refine step_append_new rfl (.tmp 38) (.tmp 39) rfl rfl hE3 rfl hD3 hdl (by simp; omega) ?_; intro A3 c3 w3 hown3 hb3 hg3; have hX3' := (hX3.grown hg3 (by simp [Value.ownBlock])).ri (xs := [(x : Int)]) rfl; have hO3 := hown3; have hU3 : Up wo w3 := Below.trans (by go_grown) hb3; have hc3 := (hU3.cell (p := a.add k) (by rw [block_of_add]; exact habs)).trans hca)
              | (refine step_append_own rfl (.tmp 40) (.tmp 45) rfl rfl hO3 rfl hX3' hdl1 (by have := hU3.size; first | exact this | (simp; omega)) ?_; intro A4 c4 w4 hown4 hb4 hg4; have hU4 : Up wo w4 := by first | exact hU3.trans hb4 | exact (hU3.alloc hU3.size _).trans hb4))
            all_goals
              have hx4 : OwnI w4 wo.heap.size A4 (d.length + 1) c4 (ints (d ++ [x])) := hown4.cast rfl (ints_app d x).symm
              obtain ⟨gx, rfl⟩ := hx4.form (by omega)
              have hw4 := Up.then_ hb hU4
              have hA4 := hA.up hw4
              have hownq4 := hownq.up hU4
              clear hE hE2 hE3 hX2 hX3 hD1 hD2 hD3 hown3 hb3 hg3 hX3' hO3 hc3 hown4 hb4 hg4 hca hcA hU3 hArr
              rcases Bool.eq_false_or_eq_true (fol (d ++ [x])) with e2 | e2
              · have E2 := Lib.hid e2
                have HO := Lib.hid (HON.out (by rw [← HX.out, HMAY.out, HNI.out, e2]; rfl))
                rw [← HX.out] at HO
                clear e2
                obtain ⟨r, hr⟩ : ∃ r, r = most - nk := ⟨_, rfl⟩
                have hr' : (most : Int) - nk = (r : Int) := by omega
                have hr1 : 1 ≤ r := by omega
                have hr2 : r ≤ 1000 := by omega
                have HR := Lib.hid hr
                have hih := Ih.out (d ++ [x]) ⟨gx, 0, none⟩ c4 r w4 (by rw [HLen.out]; exact hfx) Hdx.out hr1 hr2 (hx4.more hbo |>.cast HLen.out.symm rfl) (Nat.le_trans hbase hw4.size) hA4
                rw [HLen.out] at hih
                clear hr hr1 hr2
                go_wp2_with (go_at_call 65; refine (consec_is hx4.ri Hdx.out hdm E2.out).mono ?_; rintro e w5 ⟨rfl, rfl⟩)
                clear hr'
                refine hih.mono ?_
                clear hih
                rintro e w6 ⟨A6, c6, rfl, hown6, hb6⟩
                have hw6 := Up.then_ hw4 hb6
                replace hownq4 := hownq4.up hb6
                obtain ⟨os, hos⟩ : ∃ os, os = ords L f (d ++ [x]) := ⟨_, rfl⟩
                rw [← hos] at HO hown6 ⊢
                clear hos
                obtain ⟨q2, hq2⟩ : ∃ q2, q2 = os.head?.getD [] := ⟨_, rfl⟩
                rw [← hq2] at hown6 ⊢
                obtain ⟨kk, hkk⟩ : ∃ kk, kk = min os.length r := ⟨_, rfl⟩
                rw [← hkk]
                have HN := Lib.hid (show nk + kk = min (ordsK L f d k ++ os).length most by rw [hkk]; exact stepO HLEN.out hnt HR.out)
                have HKK := Lib.hid hkk
                have HQ2 := Lib.hid hq2
                have hnk2 : nk + kk ≤ most := by rw [HN.out]; exact Nat.min_le_right _ _
                clear hkk hq2
                by_cases hk0 : kk = 0
                · have z1 : ¬ 0 < kk := by omega
                  have HQ := Lib.hid (show q = (ordsK L f d (k + 1)).head?.getD [] by
                    have : os = [] := List.eq_nil_of_length_eq_zero (by have h1 := HKK.out; have h2 := HR.out; omega)
                    rw [HO.out, this, List.append_nil]; exact hH.out.2)
                  clear hk0
                  go_wp2
                  go_roundw
                  case rel => exact ⟨k + 1, nk + kk, A1, c1, q, by omega, by go_num, by go_num, rfl, hownq4, hw6, hnk2, by rw [HO.out]; exact HN.out, HQ.out⟩
                  case measure => simp [intOf]; omega
                · have z1 : 0 < kk := by omega
                  by_cases hn0 : nk = 0
                  · have z2 : ((nk : Int) == 0) = true := by rw [beq_iff_eq]; omega
                    have HQ := Lib.hid (show q2 = (ordsK L f d (k + 1)).head?.getD [] by
                      have : ordsK L f d k = [] := List.eq_nil_of_length_eq_zero (by have h1 := HLEN.out; omega)
                      rw [HO.out, this, List.nil_append]; exact HQ2.out)
                    clear hk0 hn0
                    go_wp2
                    go_roundw
                    case rel => exact ⟨k + 1, nk + kk, A6, c6, q2, by omega, by go_num, by go_num, rfl, hown6, hw6, hnk2, by rw [HO.out]; exact HN.out, HQ.out⟩
                    case measure => simp [intOf]; omega
                  · have z2 : ((nk : Int) == 0) = false := by rw [beq_eq_false_iff_ne]; omega
                    have HQ := Lib.hid (show q = (ordsK L f d (k + 1)).head?.getD [] by
                      rw [HO.out, head_cons (by rw [HLEN.out]; omega)]; exact hH.out.2)
                    clear hk0 hn0
                    go_wp2
                    go_roundw
                    case rel => exact ⟨k + 1, nk + kk, A1, c1, q, by omega, by go_num, by go_num, rfl, hownq4, hw6, hnk2, by rw [HO.out]; exact HN.out, HQ.out⟩
                    case measure => simp [intOf]; omega
              · have E2 := Lib.hid e2
                have HO := Lib.hid (HOFF.out (by rw [← HX.out, HMAY.out, HNI.out, e2]; rfl))
                clear e2
                go_wp2_with (go_at_call 65; refine (consec_is hx4.ri Hdx.out hdm E2.out).mono ?_; rintro e w5 ⟨rfl, rfl⟩)
                go_roundw
                case rel => exact ⟨k + 1, nk, A1, c1, q, by omega, by go_num, rfl, rfl, hownq4, hw4, hnk, by rw [HO.out]; exact hH.out⟩
                case measure => simp [intOf]; omega
        · have d1 : decide ((nk : Int) < (most : Int)) = false := decide_eq_false (by omega)
          have HR := Lib.hid (show min (ords L (f + 1) d).length most = nk ∧ (ords L (f + 1) d).head?.getD [] = q by
            obtain ⟨r, e⟩ := HPRE.out k hk
            have h1 := hH.out.1
            rw [← HALL.out, e, head_cons (by omega), hH.out.2, List.length_append]
            exact ⟨by omega, rfl⟩)
          go_wp2
          go_ret2
          exact ⟨A1, c1, by rw [HR.out.1, HR.out.2]; rfl, by rw [HR.out.2]; exact hownq, hb⟩
      · obtain rfl : k = m := by omega
        have HR := Lib.hid (show min (ords L (f + 1) d).length most = nk ∧ (ords L (f + 1) d).head?.getD [] = q by
          rw [← HALL.out]; exact ⟨hH.out.1.symm, hH.out.2.symm⟩)
        go_wp2
        go_ret2
        exact ⟨A1, c1, by rw [HR.out.1, HR.out.2]; rfl, by rw [HR.out.2]; exact hownq, hb⟩
theorem implIsChordal_is {N : Int} {A : Option Addr} {n c : Nat} {X : List Int} {w : World} {b : Bool} (hX : RI w A n X) (hn : n ≤ 9223372036854775807) (hb : (elimOf N X).isSome = b) :
    Calls Try.prog 51 #[.agg #[.int .i64 N, .slice A n c]] w fun e w' => e = .returned (.bool b) ∧ Below w.heap.size w w' := by
  subst hb
  go_enter Try.func51, Try.ntmps51
  go_wp2_with fail
  refine (implEliminationOf_any N A n c X _ (hX.up (by go_grown)) hn).mono ?_
  rintro e w1 ⟨A1, c1, rfl, hown, hb1⟩
  have hU1 : Up w w1 := Up.then_ (by go_grown) hb1
  go_wp2
  go_ret
  exact ⟨rfl, hU1⟩
theorem specIsChordal_is {N : Int} {A : Option Addr} {n c : Nat} {X : List Int} {w : World} {b : Bool} (hX : RI w A n X) (hn : n ≤ 9223372036854775807) (hb : (elimOf N X).isSome = b) :
    Calls Try.prog 44 #[.agg #[.int .i64 N, .slice A n c]] w fun e w' => e = .returned (.bool b) ∧ Below w.heap.size w w' := by
  subst hb
  go_enter Try.func44, Try.ntmps44
  go_wp2_with fail
  refine (specEliminationOf_any N A n c X _ (hX.up (by go_grown)) hn).mono ?_
  rintro e w1 ⟨A1, c1, rfl, hown, hb1⟩
  have hU1 : Up w w1 := Up.then_ (by go_grown) hb1
  go_wp2
  go_ret
  exact ⟨rfl, hU1⟩
end Go.Proofs.Ytnaoomchekhcgaa
