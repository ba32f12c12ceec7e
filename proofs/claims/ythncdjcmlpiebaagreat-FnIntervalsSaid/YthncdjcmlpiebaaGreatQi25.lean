/- Walks of chapter 10: the program's search for orders of cliques (CountCliqueOrders). Walks of chapter 11: TriplePaths. -/
import Derived.Test.YthncdjcmlpiebaaGreatQi03
import Derived.Test.YthncdjcmlpiebaaGreatQi04
import Derived.Test.YthncdjcmlpiebaaGreatQi08
import Derived.Test.YthncdjcmlpiebaaGreatQi15
import Derived.Test.YthncdjcmlpiebaaGreatQi19
import Derived.Test.YthncdjcmlpiebaaGreatQi21
import Derived.Test.YthncdjcmlpiebaaGreatQi24
import Derived.Deep.RegionWith
import Derived.Maps.AppendAt
namespace Go.Proofs.YthncdjcmlpiebaaGreat
open Go.RowKit
/-- What the visitor does, and what it keeps in its box. -/
structure VisN (σ : Type) (step : σ → List Nat → σ × Bool) (bx base : Nat) (VB : World → σ → Prop) : Prop where
  up : ∀ w w' s, VB w s → Up w w' → VB w' s
  call : ∀ (w : World) (s : σ) (l : List Nat) (g c : Nat), VB w s → OwnI w base (some ⟨g, 0, none⟩) l.length c (ints l) → 0 < l.length → g ≠ bx →
    Calls Tryz.prog 99 #[.slice (some ⟨g, 0, none⟩) l.length c, .pointer (some ⟨bx, 0, none⟩)] w fun e w' => e = .returned (.bool (step s l).2) ∧ VB w' (step s l).1 ∧ w.grownBy w' (some bx)
set_option maxRecDepth 100000 in
set_option maxHeartbeats 4000000 in
theorem ordSearchN_any {σ : Type} {step : σ → List Nat → σ × Bool} {VB : World → σ → Prop} {bx base : Nat} (V : VisN σ step bx base VB) (m cC bC bV bS : Nat) (AC : Option Addr) (L : List Nat) (hLm : L.length = m) (hL7 : ∀ x ∈ L, x < 2 ^ 7) (hm0 : 0 < m) (hm : m ≤ 128) (hAC : ∀ ad, AC = some ad → ad.block ≠ bx) :
    ∀ (f : Nat) (l : List Nat) (B : Option Addr) (c : Nat) (w : World) (s : σ), l.length + f = m → (∀ x ∈ l, x < 2 ^ 7) → RI w B l.length (ints l) → (B = none → c = 0) → l.length ≤ c → c ≤ 9223372036854775807 → (∀ ad, B = some ad → ad.block ≠ bx) → RI w AC m (ints L) → OrdBx 99 w AC m cC bC bV bS bx → VB w s → bx < w.heap.size → base ≤ w.heap.size →
    Calls Tryz.prog 142 #[.slice B l.length c, .pointer (some ⟨bC, 0, none⟩), .pointer (some ⟨bV, 0, none⟩), .pointer (some ⟨bS, 0, none⟩)] w fun e w' => e = .returned (.bool (visR step s (ords L f l)).2) ∧ VB w' (visR step s (ords L f l)).1 ∧ w.grownBy w' (some bx) := by
  intro f
  induction f with
  | zero =>
    intro l B c w s hf hl hL hB hlc hc hne hA hbx hv hbw hbase
    have heq : ((l.length : Int) == (m : Int)) = true := by rw [beq_iff_eq]; omega
    have hcs := hbx.cells
    obtain ⟨bd, rfl, _, _⟩ := hL.addr (by omega)
    have h0 : 0 < l.length := by omega
    have h1 : l.length ≤ 1048576 := by omega
    have HR := Lib.hid (show visR step s (ords L 0 l) = step s l from visR_one step s l)
    clear hf hl hL7
    go_enter Tryz.func142, Tryz.ntmps142
    go_wp2
    have hLd := hL.drew
    go_region_with (first
      | (go_at_call 125; refine (slClone_any bd l.length c (ints l) _ hLd h0 h1).mono ?_; rintro e w1 ⟨g, c1, rfl, hown1, hb1⟩; have hU1 : Up w w1 := Below.trans (by go_grown) hb1; have hcs1 := (hbx.gb (hU1.gb _)).cells)
      | (go_at_call 99; refine (V.call w1 s l g c1 (V.up _ _ _ hv hU1) (hown1.more hbase) h0 (fun e => by have := (hown1.block g rfl).1; simp at this; omega)).mono ?_; rintro e w2 ⟨rfl, hv2, hg2⟩))
    all_goals
      go_wp2
      go_ret
      rw [HR.out]
      exact ⟨rfl, hv2, (hU1.gb _).trans hg2⟩
  | succ f ih =>
    intro l B c w s hf hl hL hB hlc hc hne hA hbx hv hbw hbase
    have hneq : ((l.length : Int) == (m : Int)) = false := by rw [beq_eq_false_iff_ne]; omega
    have Hl := Lib.hid hl
    have Ih := Lib.hid ih
    have HALL := Lib.hid (show ordsK L f l m = ords L (f + 1) l by rw [← hLm]; exact ords_all L f l)
    have HPRE := Lib.hid (fun k => ordsK_pre L f l (k := k) m)
    have HB7 := Lib.hid (nb_lt_all (Nat.two_pow_pos 7) hL7)
    have hcs := hbx.cells
    clear hl ih hL7
    go_enter Tryz.func142, Tryz.ntmps142
    go_wp2_with fail
    go_loopw [20] (fun i wr => ∃ (k : Nat) (s' : σ), k ≤ m ∧ i = .int .i64 k ∧ VB wr s' ∧ w.grownBy wr (some bx) ∧ Hid (visR step s (ordsK L f l k) = (s', true))) (fun i _ => m - (intOf i).toNat)
    case atStart => exact ⟨0, s, Nat.zero_le _, rfl, hv, World.grownBy.refl _ _, rfl⟩
    case round =>
      clear hcs
      obtain ⟨k, s', hk, rfl, hv', hb, hR⟩ := hrel
      obtain ⟨wo, rfl⟩ : ∃ wo : World, wo = wr := ⟨_, rfl⟩
      have hbxr := hbx.gb hb
      have hcs := hbxr.cells
      by_cases hkt : k < m
      · have hsz := hb.size
        have hLr := hL.gb hb hne
        have hAr := hA.gb hb hAC
        have HON := Lib.hid (ordsK_on (L := L) (f := f) (k := k) (l := l))
        have HOFF := Lib.hid (ordsK_off (L := L) (f := f) (k := k) (l := l))
        have HMAY := Lib.hid (show mayC l (nb L k) = (!decide (nb L k ∈ l) && fol (l ++ [nb L k])) from rfl)
        have hx7 : nb L k < 128 := HB7.out k
        obtain ⟨a, rfl, hca⟩ := hAr.ints_at hkt
        obtain ⟨x, hx⟩ : ∃ x, x = nb L k := ⟨_, rfl⟩
        rw [← hx] at HON HOFF HMAY hx7 hca
        clear hx
        have hcell := (Blk.new wo 3 #[.int .i64 (x : Int)]).one
        have HB0 := Lib.hid (show B = none → l.length = 0 from fun e => by have := hB e; omega)
        have hll : l.length ≤ 1048576 := by omega
        have hlm : l.length ≤ 9223372036854775807 := by omega
        have hl1 : l.length + 1 ≤ 9223372036854775807 := by omega
        have hfx : l.length + 1 + f = m := by omega
        have hnq := neq_nil
        have Hlx := Lib.hid (show ∀ y ∈ l ++ [x], y < 2 ^ 7 from fun y hy => by
          rcases List.mem_append.1 hy with hy | hy
          · exact Hl.out y hy
          · obtain rfl : y = x := by simpa using hy
            exact hx7)
        have HLen := Lib.hid (show (l ++ [x]).length = l.length + 1 from push_len.symm)
        have hbwo : bx < wo.heap.size := by omega
        have hbaseo : base ≤ wo.heap.size := by omega
        go_wp2_with (at_builtin; refine wpList_more rfl (.tmp 29) (.tmp 31) rfl (x : Int) rfl HB0.out (hLr.alloc _) ⟨wo.heap.size, 0, none⟩ rfl hcell hll ?_; intro A1 c1 w1 hown1 hU1a)
        have hU1 : Up wo w1 := Up.then_ (by go_grown) hU1a
        have hx1 : OwnI w1 wo.heap.size A1 (l.length + 1) c1 (ints (l ++ [x])) := (hown1.more (by simp)).cast rfl (ints_app l x).symm
        obtain ⟨gx, rfl⟩ := hx1.form (by omega)
        have hgx : gx ≠ bx := by have := (hx1.block gx rfl).1; omega
        clear hown1 hcell hcs hca
        have hb1 := hb.trans (hU1.gb (some bx))
        replace hLr := hLr.up hU1
        replace hAr := hAr.up hU1
        replace hbxr := hbxr.gb (hU1.gb _)
        replace hv' := V.up _ _ _ hv' hU1
        have hcs := hbxr.cells
        have hcap := hx1.cap
        have hs1 : wo.heap.size ≤ w1.heap.size := hU1.size
        rcases Bool.eq_false_or_eq_true (decide (x ∈ l)) with e1 | e1
        · have HO := Lib.hid (HOFF.out (by rw [HMAY.out, e1]; rfl))
          rw [← dec_mem] at e1
          refine (slContains_is hLr hlm e1).mono ?_
          clear e1
          rintro e w3 ⟨rfl, rfl⟩
          go_wp2
          go_roundw
          case rel => exact ⟨k + 1, s', by omega, by go_num, hv', hb1, by rw [HO.out]; exact hR.out⟩
          case measure => simp [intOf]; omega
        · have HNI := Lib.hid e1
          rw [← dec_mem] at e1
          have E1 := Lib.hid e1
          clear e1
          rcases Bool.eq_false_or_eq_true (fol (l ++ [x])) with e2 | e2
          · have E2 := Lib.hid e2
            have HO := Lib.hid (HON.out (by rw [HMAY.out, HNI.out, e2]; rfl))
            clear e2
            have hih := Ih.out (l ++ [x]) (some ⟨gx, 0, none⟩) c1 w1 s' (by rw [HLen.out]; exact hfx) Hlx.out (by rw [HLen.out]; exact hx1.ri) (fun e => by cases e) (by rw [HLen.out]; exact hcap.1) hcap.2 (fun ad e => by injection e with e; rw [← e]; exact hgx) hAr hbxr hv' (Nat.lt_of_lt_of_le hbwo hs1) (Nat.le_trans hbaseo hs1)
            rw [HLen.out] at hih
            obtain ⟨p, hp⟩ : ∃ p, p = visR step s' (ords L f (l ++ [x])) := ⟨_, rfl⟩
            rw [← hp] at hih
            obtain ⟨s2, b⟩ := p
            have HP := Lib.hid (show visR step s (ordsK L f l (k + 1)) = (s2, b) by rw [HO.out, visR_on hR.out]; exact hp.symm)
            clear hp
            refine (slContains_is hLr hlm E1.out).mono ?_
            rintro e w3 ⟨rfl, rfl⟩
            go_wp2_with (go_at_call 98; refine (follow_is hx1.ri Hlx.out hl1 E2.out).mono ?_; rintro e w4 ⟨rfl, rfl⟩)
            refine hih.mono ?_
            clear hih
            rintro e w5 ⟨rfl, hv5, hg5⟩
            have hb5 := hb1.trans hg5
            cases b
            · have HQ := Lib.hid (show visR step s (ords L (f + 1) l) = (s2, false) by
                obtain ⟨r, e⟩ := HPRE.out (k + 1) (by omega)
                rw [← HALL.out, e]; exact visR_off HP.out)
              go_wp2
              go_ret
              rw [HQ.out]
              exact ⟨rfl, hv5, hb5⟩
            · go_wp2
              go_roundw
              case rel => exact ⟨k + 1, s2, by omega, by go_num, hv5, hb5, HP.out⟩
              case measure => simp [intOf]; omega
          · have E2 := Lib.hid e2
            have HO := Lib.hid (HOFF.out (by rw [HMAY.out, HNI.out, e2]; rfl))
            clear e2
            refine (slContains_is hLr hlm E1.out).mono ?_
            rintro e w3 ⟨rfl, rfl⟩
            go_wp2_with (go_at_call 98; refine (follow_is hx1.ri Hlx.out hl1 E2.out).mono ?_; rintro e w4 ⟨rfl, rfl⟩)
            go_roundw
            case rel => exact ⟨k + 1, s', by omega, by go_num, hv', hb1, by rw [HO.out]; exact hR.out⟩
            case measure => simp [intOf]; omega
      · obtain rfl : k = m := by omega
        have HQ := Lib.hid (show visR step s (ords L (f + 1) l) = (s', true) by rw [← HALL.out]; exact hR.out)
        go_wp2
        go_ret
        rw [HQ.out]
        exact ⟨rfl, hv', hb⟩
set_option maxRecDepth 100000 in
set_option maxHeartbeats 2000000 in
theorem cliqueOrdersN_any {σ : Type} {step : σ → List Nat → σ × Bool} {VB : World → σ → Prop} {bx base : Nat} (V : VisN σ step bx base VB) (N : Int) (A : Option Addr) (n c : Nat) (X : List Int) (w : World) (s : σ) (hX : RI w A n X) (hn : n ≤ 9223372036854775807) (hv : VB w s) (hbw : bx < w.heap.size) (hbase : base ≤ w.heap.size) :
    Calls Tryz.prog 89 #[.agg #[.int .i64 N, .slice A n c], .func (.func 99) #[] #[.pointer (some ⟨bx, 0, none⟩)]] w fun e w' => e = .returned (.tuple #[]) ∧ VB w' (visR step s (cliqOrds N X)).1 ∧ w.grownBy w' (some bx) := by
  have hG := (Blk.new w 26 #[.int .i64 N, .slice A n c]).alloc (.cells #[.func (.func 99) #[] #[.pointer (some ⟨bx, 0, none⟩)]] 61)
  have hV : Blk ((w.alloc (.cells #[.int .i64 N, .slice A n c] 26)).alloc (.cells #[.func (.func 99) #[] #[.pointer (some ⟨bx, 0, none⟩)]] 61)) (w.heap.size + 1) 61 #[.func (.func 99) #[] #[.pointer (some ⟨bx, 0, none⟩)]] := Blk.new_at (by simp)
  have hU0 : Up w ((w.alloc (.cells #[.int .i64 N, .slice A n c] 26)).alloc (.cells #[.func (.func 99) #[] #[.pointer (some ⟨bx, 0, none⟩)]] 61)) := by go_grown
  obtain ⟨b, hb⟩ : ∃ b, b = (elimOf N X).isSome := ⟨_, rfl⟩
  have HC := Lib.hid hb.symm
  clear hb
  go_enter Tryz.func89, Tryz.ntmps89
  go_wp2_with fail
  refine (implMaximalCliques_any N A n c X _ (hX.up hU0) hn).mono ?_
  intro e w1 hg1
  obtain ⟨AC, cC, rfl, hownC, hb1⟩ := hg1.out
  clear hg1
  have hU1 : Up w w1 := Up.then_ hU0 hb1
  replace hG := hG.up hb1
  replace hV := hV.up hb1
  have hyG := hG.two
  have hlG := hG.lt
  have hlV := hV.lt
  obtain ⟨L, hL⟩ : ∃ L, L = maxCliquesOf N X := ⟨_, rfl⟩
  rw [← hL] at hownC ⊢
  have HL := Lib.hid hL
  clear hL
  go_wp2_with fail
  obtain ⟨w2, hw2⟩ : ∃ w2, w2 = (w1.alloc (.cells #[.slice AC L.length cC] 24)).alloc (.cells #[.func (.func 142) #[] #[.pointer (some ⟨w1.heap.size, 0, none⟩), .pointer (some ⟨w.heap.size + 1, 0, none⟩), .pointer (some ⟨w1.heap.size + 1, 0, none⟩)]] 61) := ⟨_, rfl⟩
  have hbC : Blk w2 w1.heap.size 24 #[.slice AC L.length cC] := by rw [hw2]; exact (Blk.new w1 _ _).alloc _
  have hbS : Blk w2 (w1.heap.size + 1) 61 #[.func (.func 142) #[] #[.pointer (some ⟨w1.heap.size, 0, none⟩), .pointer (some ⟨w.heap.size + 1, 0, none⟩), .pointer (some ⟨w1.heap.size + 1, 0, none⟩)]] := by rw [hw2]; exact Blk.new_at (by simp)
  have hU2 : Up w1 w2 := by rw [hw2]; go_grown
  rw [← hw2]
  clear hw2 hyG hlG hlV
  have hw12 := Up.then_ hU1 hU2
  refine (implIsChordal_is (hX.up hw12) hn HC.out).mono ?_
  rintro e w3 ⟨rfl, hb3⟩
  have hw3 := Up.then_ hw12 hb3
  have hv3 := V.up _ _ _ hv hw3
  cases b
  · have HO := Lib.hid (cliqOrds_no HC.out)
    go_wp2
    go_end0
    rw [HO.out]
    exact ⟨rfl, hv3, hw3.gb _⟩
  · have HO := Lib.hid (cliqOrds_yes HC.out)
    have hok := cliques_ok HC.out
    rw [← HL.out] at hok HO
    have hsz1 := hU1.size
    have hbx : OrdBx 99 w3 AC L.length cC w1.heap.size (w.heap.size + 1) (w1.heap.size + 1) bx := ⟨hbC.up hb3, (hV.up hU2).up hb3, hbS.up hb3, by omega, by omega, by omega⟩
    have hown3 := (hownC.up hU2).up hb3
    have hAC : ∀ ad, AC = some ad → ad.block ≠ bx := by
      obtain ⟨g, rfl⟩ := hown3.form hok.2.1
      intro ad e
      injection e with e
      subst e
      have := (hown3.block g rfl).1
      have h4 := hU0.size
      show g ≠ bx
      omega
    have hcs := hbx.cells
    have hsz3 := hw3.size
    have hcall := ordSearchN_any V L.length cC w1.heap.size (w.heap.size + 1) (w1.heap.size + 1) AC L rfl hok.1 hok.2.1 hok.2.2 hAC L.length [] none 0 w3 s (by simp) (by simp) RI.nil_ (fun _ => rfl) (by simp) (by omega) (fun ad e => by cases e) hown3.ri hbx hv3 (by omega) (by omega)
    go_wp2_with fail
    refine hcall.mono ?_
    clear hcall
    rintro e w4 ⟨rfl, hv4, hg4⟩
    go_wp2
    go_end0
    rw [HO.out]
    exact ⟨rfl, hv4, (hw3.gb _).trans hg4⟩
/-- The box of the visitor of CountCliqueOrders. -/
def VBN (bx : Nat) (w : World) (z : Int) : Prop := Blk w bx 3 #[.int .i64 z]
set_option maxRecDepth 100000 in
theorem visN_ok (bx base : Nat) : VisN Int stepN bx base (VBN bx) := by
  refine ⟨fun w w' s h hb => Blk.up h hb, fun w s l g c hv hown h0 hne => ?_⟩
  have hblk : Blk w bx 3 #[.int .i64 s] := hv
  have hy := hblk.one
  have hf := hblk.frozen 0
  obtain ⟨z, hz⟩ : ∃ z, z = wrap64 (s + 1) := ⟨_, rfl⟩
  have hwz := hz.symm
  have hset := hblk.set_ 0 (.int .i64 z)
  have hg2 := grown_setCell w ⟨bx, 0, none⟩ (.int .i64 z)
  have hy2 := hset.one
  have HS := Lib.hid (show stepN s l = (z, decide (z < 1000)) by rw [stepN, ← hz])
  clear hv hown hblk hz
  go_enter Tryz.func99, Tryz.ntmps99
  go_wp2
  go_ret
  rw [HS.out]
  exact ⟨rfl, hset, hg2⟩
set_option maxRecDepth 100000 in
set_option maxHeartbeats 2000000 in
theorem implCountCliqueOrders_any (N : Int) (A : Option Addr) (n c : Nat) (X : List Int) (w : World) (hX : RI w A n X) (hn : n ≤ 9223372036854775807) :
    Calls Tryz.prog 36 #[.agg #[.int .i64 N, .slice A n c]] w fun e w' => e = .returned (.int .i64 (min (cliqOrds N X).length 1000 : Nat)) ∧ Below w.heap.size w w' := by
  have HF := Lib.hid (show (visR stepN 0 (cliqOrds N X)).1 = (min (cliqOrds N X).length 1000 : Nat) by
    have := visR_count (cliqOrds N X) 0 (by omega)
    rwa [Nat.zero_add] at this)
  go_enter Tryz.func36, Tryz.ntmps36
  go_wp2_with fail
  obtain ⟨w1, hw1⟩ : ∃ w1, w1 = (w.alloc (.cells #[.int .i64 N, .slice A n c] 26)).alloc (.cells #[.int .i64 0] 3) := ⟨_, rfl⟩
  have hbx : Blk w1 (w.heap.size + 1) 3 #[.int .i64 0] := by rw [hw1]; exact Blk.new_at (by simp)
  have hU1 : Up w w1 := by rw [hw1]; go_grown
  rw [← hw1]
  clear hw1
  have hlx := hbx.lt
  refine (cliqueOrdersN_any (visN_ok (w.heap.size + 1) w.heap.size) N A n c X w1 0 (hX.up hU1) hn hbx hlx hU1.size).mono ?_
  rintro e w2 ⟨rfl, hv2, hg2⟩
  rw [HF.out] at hv2
  have hb2 : Below w.heap.size w w2 := hU1.grown hg2 hU1.size fun k hk => by injection hk with hk; omega
  obtain ⟨r, hr⟩ : ∃ r, r = min (cliqOrds N X).length 1000 := ⟨_, rfl⟩
  rw [← hr] at hv2
  have HRR := Lib.hid hr
  clear hr
  have hy : w2.cell? ⟨w.heap.size + 1, 0, none⟩ = some (.int .i64 r) := Blk.one hv2
  go_wp2
  go_ret
  rw [← HRR.out]
  exact ⟨rfl, hb2⟩
end Go.Proofs.YthncdjcmlpiebaaGreat
namespace Go.Proofs.YthncdjcmlpiebaaGreat
open Go.RowKit
def tripPaths (N : Int) (X : List Int) (a b c : Int) : List (List Int) := if isTrip N X a b c then [optL (avoidOf N X a b c), optL (avoidOf N X b c a), optL (avoidOf N X c a b)] else []
set_option maxRecDepth 100000 in
theorem tripPaths_no {N : Int} {X : List Int} {a b c : Int} (h : isTrip N X a b c = false) : tripPaths N X a b c = [] := by rw [tripPaths, h]; rfl
set_option maxRecDepth 100000 in
theorem tripPaths_yes {N : Int} {X : List Int} {a b c : Int} (h : isTrip N X a b c = true) : tripPaths N X a b c = [optL (avoidOf N X a b c), optL (avoidOf N X b c a), optL (avoidOf N X c a b)] := by rw [tripPaths, if_pos h]
set_option maxRecDepth 100000 in
theorem avoid_len (N : Int) (X : List Int) (a b c : Int) : (optL (avoidOf N X a b c)).length ≤ 128 := by
  rw [optL, ints_len]
  rcases avoid_cases N X a b c with ⟨h0, _⟩ | ⟨n, i, j, k, Q, rfl, rfl, rfl, rfl, rfl, h, hi, hj, hk⟩
  · rw [h0]; simp
  · rw [avoidOf_ok h hi hj hk]
    rcases hw : wayOf Q n (awayS Q n k) i j with _ | r
    · simp
    · have := (wayOf_len hw h.pos).2
      have := h.le
      show r.length ≤ 128
      omega
set_option maxRecDepth 100000 in
theorem tripPaths_len (N : Int) (X : List Int) (a b c : Int) : sumL (tripPaths N X a b c) ≤ 1048576 ∧ (tripPaths N X a b c).length ≤ 1048576 := by
  rcases Bool.eq_false_or_eq_true (isTrip N X a b c) with e | e
  · rw [tripPaths_yes e]
    have h1 := avoid_len N X a b c
    have h2 := avoid_len N X b c a
    have h3 := avoid_len N X c a b
    simp only [sumL, List.length_cons, List.length_nil]
    omega
  · rw [tripPaths_no e]; simp [sumL]
set_option maxRecDepth 100000 in
/-- Three rows made one after the other, in one slice. -/
theorem OwnS.three {w : World} {b1 b2 b3 base : Nat} {p1 p2 p3 : RowP} (h1 : OwnI w b1 p1.1.1 p1.2.length p1.1.2 p1.2) (h2 : OwnI w b2 p2.1.1 p2.2.length p2.1.2 p2.2) (h3 : OwnI w b3 p3.1.1 p3.2.length p3.1.2 p3.2)
    (hb1 : base ≤ b1) (hb2 : b1 ≤ b2) (hb3 : b2 ≤ b3) (l1 : ∀ j, (rowV p1).ownBlock = some j → j < b2) (l2 : ∀ j, (rowV p2).ownBlock = some j → j < b3) (hbs : base ≤ w.heap.size) :
    OwnS (w.alloc (.cells #[rowV p1, rowV p2, rowV p3] 24)) base (some ⟨w.heap.size, 0, none⟩) 3 3 [p1, p2, p3] := by
  refine ⟨(Blk.new w 24 #[rowV p1, rowV p2, rowV p3]).own (n := 3) hbs rfl (by decide), fun p hp => ?_, ?_⟩
  · simp only [List.mem_cons, List.not_mem_nil, or_false] at hp
    rcases hp with rfl | rfl | rfl
    · exact (h1.more hb1).alloc _
    · exact (h2.more (Nat.le_trans hb1 hb2)).alloc _
    · exact (h3.more (Nat.le_trans hb1 (Nat.le_trans hb2 hb3))).alloc _
  · have g2 := h2.block
    have g3 := h3.block
    simp only [List.pairwise_cons, List.mem_cons, List.not_mem_nil, or_false, forall_eq_or_imp, forall_eq]
    refine ⟨⟨fun j e1 e2 => ?_, fun j e1 e2 => ?_⟩, fun j e1 e2 => ?_, ?_⟩
    · have := l1 j e1; have := (g2 j e2).1; omega
    · have := l1 j e1; have := (g3 j e2).1; omega
    · have := l2 j e1; have := (g3 j e2).1; omega
    · exact ⟨fun _ h => by simp at h, List.Pairwise.nil⟩
set_option maxRecDepth 100000 in
set_option maxHeartbeats 2000000 in
theorem implTriplePaths_any (N : Int) (A : Option Addr) (n d : Nat) (X : List Int) (a b c : Int) (w : World) (hX : RI w A n X) (hn : n ≤ 9223372036854775807) :
    Calls Tryz.prog 42 #[.agg #[.int .i64 N, .slice A n d], .int .i64 a, .int .i64 b, .int .i64 c] w (GivesSB (tripPaths N X a b c) (isTrip N X a b c) w) := by
  have hbk := Blk.new w 26 #[.int .i64 N, .slice A n d]
  have hU0 : Up w (w.alloc (.cells #[.int .i64 N, .slice A n d] 26)) := by go_grown
  obtain ⟨t, ht⟩ : ∃ t, t = isTrip N X a b c := ⟨_, rfl⟩
  have HT := Lib.hid ht.symm
  clear ht
  cases t
  · rw [tripPaths_no HT.out, HT.out]
    go_enter Tryz.func42, Tryz.ntmps42
    go_wp2_with fail
    refine (implIsTriple_is (hX.up hU0) hn HT.out).mono ?_
    rintro e w1 ⟨rfl, hb1⟩
    have hU1 : Up w w1 := Up.then_ hU0 hb1
    go_wp2
    go_ret2
    exact ⟨none, 0, [], rfl, rfl, OwnS.nil_ _ _, hU1⟩
  · rw [tripPaths_yes HT.out, HT.out]
    obtain ⟨r1, hr1⟩ : ∃ r, r = avoidOf N X a b c := ⟨_, rfl⟩
    obtain ⟨r2, hr2⟩ : ∃ r, r = avoidOf N X b c a := ⟨_, rfl⟩
    obtain ⟨r3, hr3⟩ : ∃ r, r = avoidOf N X c a b := ⟨_, rfl⟩
    rw [← hr1, ← hr2, ← hr3]
    have HR := Lib.hid (And.intro hr1 (And.intro hr2 hr3))
    clear hr1 hr2 hr3
    go_enter Tryz.func42, Tryz.ntmps42
    go_wp2_with fail
    refine (implIsTriple_is (hX.up hU0) hn HT.out).mono ?_
    rintro e w1 ⟨rfl, hb1⟩
    have hU1 : Up w w1 := Up.then_ hU0 hb1
    replace hbk := hbk.up hb1
    have hy := hbk.two
    have hl := hbk.lt
    go_wp2_with fail
    refine (implAvoidingPath_any N a b c A n d X w1 (hX.up hU1) hn).mono ?_
    rintro e w2 ⟨A2, c2, rfl, ho2, hb2⟩
    rw [← HR.out.1] at ho2 ⊢
    have hU2 : Up w w2 := Up.then_ hU1 hb2
    replace hbk := hbk.up hb2
    replace hy := hbk.two
    replace hl := hbk.lt
    have B2 := ho2.block
    go_wp2_with fail
    refine (implAvoidingPath_any N b c a A n d X w2 (hX.up hU2) hn).mono ?_
    rintro e w3 ⟨A3, c3, rfl, ho3, hb3⟩
    rw [← HR.out.2.1] at ho3 ⊢
    have hU3 : Up w w3 := Up.then_ hU2 hb3
    replace hbk := hbk.up hb3
    replace hy := hbk.two
    replace hl := hbk.lt
    have B3 := ho3.block
    go_wp2_with fail
    refine (implAvoidingPath_any N c a b A n d X w3 (hX.up hU3) hn).mono ?_
    rintro e w4 ⟨A4, c4, rfl, ho4, hb4⟩
    rw [← HR.out.2.2] at ho4 ⊢
    have hU4 : Up w w4 := Up.then_ hU3 hb4
    have hS := OwnS.three (p1 := ((A2, c2), optL r1)) (p2 := ((A3, c3), optL r2)) (p3 := ((A4, c4), optL r3)) (base := w.heap.size) ((ho2.up hb3).up hb4) (ho3.up hb4) ho4 hU1.size hb2.size hb3.size (fun j e => (B2 j e).2) (fun j e => (B3 j e).2) hU4.size
    have hww := hU4.alloc hU4.size (.cells #[rowV ((A2, c2), optL r1), rowV ((A3, c3), optL r2), rowV ((A4, c4), optL r3)] 24)
    unfold rowV at hS hww
    clear hy hl
    go_wp2
    go_ret2
    exact ⟨some ⟨w4.heap.size, 0, none⟩, 3, [((A2, c2), optL r1), ((A3, c3), optL r2), ((A4, c4), optL r3)], rfl, rfl, hS, hww⟩
set_option maxRecDepth 100000 in
set_option maxHeartbeats 2000000 in
theorem specTriplePaths_any (N : Int) (A : Option Addr) (n d : Nat) (X : List Int) (a b c : Int) (w : World) (hX : RI w A n X) (hn : n ≤ 9223372036854775807) :
    Calls Tryz.prog 43 #[.agg #[.int .i64 N, .slice A n d], .int .i64 a, .int .i64 b, .int .i64 c] w (GivesSB (tripPaths N X a b c) (isTrip N X a b c) w) := by
  have hbk := Blk.new w 26 #[.int .i64 N, .slice A n d]
  have hU0 : Up w (w.alloc (.cells #[.int .i64 N, .slice A n d] 26)) := by go_grown
  obtain ⟨t, ht⟩ : ∃ t, t = isTrip N X a b c := ⟨_, rfl⟩
  have HT := Lib.hid ht.symm
  clear ht
  cases t
  · rw [tripPaths_no HT.out, HT.out]
    go_enter Tryz.func43, Tryz.ntmps43
    go_wp2_with fail
    refine (specIsTriple_is (hX.up hU0) hn HT.out).mono ?_
    rintro e w1 ⟨rfl, hb1⟩
    have hU1 : Up w w1 := Up.then_ hU0 hb1
    have hown0 := OwnS.made (base := w.heap.size) (w := w1) rfl hU1.size
    have hww := hU1.alloc hU1.size (.cells #[] 24)
    go_wp2
    go_ret2
    exact ⟨some ⟨w1.heap.size, 0, none⟩, 0, [], rfl, rfl, hown0, hww⟩
  · rw [tripPaths_yes HT.out, HT.out]
    obtain ⟨r1, hr1⟩ : ∃ r, r = avoidOf N X a b c := ⟨_, rfl⟩
    obtain ⟨r2, hr2⟩ : ∃ r, r = avoidOf N X b c a := ⟨_, rfl⟩
    obtain ⟨r3, hr3⟩ : ∃ r, r = avoidOf N X c a b := ⟨_, rfl⟩
    rw [← hr1, ← hr2, ← hr3]
    have HR := Lib.hid (And.intro hr1 (And.intro hr2 hr3))
    clear hr1 hr2 hr3
    go_enter Tryz.func43, Tryz.ntmps43
    go_wp2_with fail
    refine (specIsTriple_is (hX.up hU0) hn HT.out).mono ?_
    rintro e w1 ⟨rfl, hb1⟩
    have hU1 : Up w w1 := Up.then_ hU0 hb1
    replace hbk := hbk.up hb1
    have hy := hbk.two
    have hl := hbk.lt
    go_wp2_with fail
    refine (specAvoidingPath_any N a b c A n d X w1 (hX.up hU1) hn).mono ?_
    rintro e w2 ⟨A2, c2, rfl, ho2, hb2⟩
    rw [← HR.out.1] at ho2 ⊢
    have hU2 : Up w w2 := Up.then_ hU1 hb2
    replace hbk := hbk.up hb2
    replace hy := hbk.two
    replace hl := hbk.lt
    have B2 := ho2.block
    go_wp2_with fail
    refine (specAvoidingPath_any N b c a A n d X w2 (hX.up hU2) hn).mono ?_
    rintro e w3 ⟨A3, c3, rfl, ho3, hb3⟩
    rw [← HR.out.2.1] at ho3 ⊢
    have hU3 : Up w w3 := Up.then_ hU2 hb3
    replace hbk := hbk.up hb3
    replace hy := hbk.two
    replace hl := hbk.lt
    have B3 := ho3.block
    go_wp2_with fail
    refine (specAvoidingPath_any N c a b A n d X w3 (hX.up hU3) hn).mono ?_
    rintro e w4 ⟨A4, c4, rfl, ho4, hb4⟩
    rw [← HR.out.2.2] at ho4 ⊢
    have hU4 : Up w w4 := Up.then_ hU3 hb4
    have hS := OwnS.three (p1 := ((A2, c2), optL r1)) (p2 := ((A3, c3), optL r2)) (p3 := ((A4, c4), optL r3)) (base := w.heap.size) ((ho2.up hb3).up hb4) (ho3.up hb4) ho4 hU1.size hb2.size hb3.size (fun j e => (B2 j e).2) (fun j e => (B3 j e).2) hU4.size
    have hww := hU4.alloc hU4.size (.cells #[rowV ((A2, c2), optL r1), rowV ((A3, c3), optL r2), rowV ((A4, c4), optL r3)] 24)
    unfold rowV at hS hww
    clear hy hl
    go_wp2
    go_ret2
    exact ⟨some ⟨w4.heap.size, 0, none⟩, 3, [((A2, c2), optL r1), ((A3, c3), optL r2), ((A4, c4), optL r3)], rfl, rfl, hS, hww⟩
end Go.Proofs.YthncdjcmlpiebaaGreat
