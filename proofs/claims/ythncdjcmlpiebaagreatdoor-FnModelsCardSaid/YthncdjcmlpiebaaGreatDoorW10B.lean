/- Walks of chapter 10: the program's search for orders of cliques (CliqueOrderOf). Walks of chapter 10: the reference's orders of cliques. -/
import Derived.Test.YthncdjcmlpiebaaGreatDoorW10A
import Derived.Test.YthncdjcmlpiebaaGreatDoorW7A
import Derived.Test.YthncdjcmlpiebaaGreatDoorW6b
import Derived.Test.YthncdjcmlpiebaaGreatDoorW3A
import Derived.Test.YthncdjcmlpiebaaGreatDoorW12A
import Derived.Deep.RegionWith
import Derived.Maps.AppendAt
namespace Go.Proofs.YthncdjcmlpiebaaGreatDoor
open Go.RowKit
set_option maxRecDepth 100000 in
theorem Up.gb {w w' : World} (h : Up w w') (row : Option Nat) : w.grownBy w' row := only_of_below h row
set_option maxRecDepth 100000 in
theorem RI.gb {w w' : World} {A : Option Addr} {n bx : Nat} {xs : List Int} (h : RI w A n xs) (hg : w.grownBy w' (some bx)) (hr : ∀ ad, A = some ad → ad.block ≠ bx) : RI w' A n xs :=
  h.grown hg fun ad e k => hr ad e (by injection k)
set_option maxRecDepth 100000 in
theorem Blk.gb {w w' : World} {g bx : Nat} {t : TypeId} {cs : Array Value} (h : Blk w g t cs) (hg : w.grownBy w' (some bx)) (hr : g ≠ bx) : Blk w' g t cs :=
  h.grown hg fun e => hr (by injection e)
/-- The variables that the search captures: the cliques, what visits, the search. -/
structure OrdBx (vf : FuncId) (w : World) (AC : Option Addr) (m cC bC bV bS bx : Nat) : Prop where
  c : Blk w bC 24 #[.slice AC m cC]
  v : Blk w bV 108 #[.func (.func vf) #[] #[.pointer (some ⟨bx, 0, none⟩)]]
  s : Blk w bS 108 #[.func (.func 143) #[] #[.pointer (some ⟨bC, 0, none⟩), .pointer (some ⟨bV, 0, none⟩), .pointer (some ⟨bS, 0, none⟩)]]
  nc : bC ≠ bx
  nv : bV ≠ bx
  ns : bS ≠ bx
set_option maxRecDepth 100000 in
theorem OrdBx.gb {vf : FuncId} {w w' : World} {AC : Option Addr} {m cC bC bV bS bx : Nat} (h : OrdBx vf w AC m cC bC bV bS bx) (hg : w.grownBy w' (some bx)) : OrdBx vf w' AC m cC bC bV bS bx :=
  ⟨h.c.gb hg h.nc, h.v.gb hg h.nv, h.s.gb hg h.ns, h.nc, h.nv, h.ns⟩
set_option maxRecDepth 100000 in
theorem OrdBx.cells {vf : FuncId} {w : World} {AC : Option Addr} {m cC bC bV bS bx : Nat} (h : OrdBx vf w AC m cC bC bV bS bx) :
    w.cell? ⟨bC, 0, none⟩ = some (.slice AC m cC) ∧ w.cell? ⟨bV, 0, none⟩ = some (.func (.func vf) #[] #[.pointer (some ⟨bx, 0, none⟩)]) ∧
    w.cell? ⟨bS, 0, none⟩ = some (.func (.func 143) #[] #[.pointer (some ⟨bC, 0, none⟩), .pointer (some ⟨bV, 0, none⟩), .pointer (some ⟨bS, 0, none⟩)]) := ⟨h.c.one, h.v.one, h.s.one⟩
set_option maxRecDepth 100000 in
theorem visR_all {σ : Type} {step : σ → List Nat → σ × Bool} {s : σ} {xs ys : List (List Nat)} {p : σ × Bool} (h : visR step s xs = p) (e : ys = xs) : visR step s ys = p := by rw [e]; exact h
set_option maxRecDepth 100000 in
theorem isNone_ne {ad : Addr} {B : Option Addr} {bx : Nat} (h : B = some ad → ad.block ≠ bx) : B = some ad → ad.block ≠ bx := h
/-- What the visitor does, and what it keeps in its box. -/
structure VisO (σ : Type) (step : σ → List Nat → σ × Bool) (bx base : Nat) (VB : World → σ → Prop) : Prop where
  up : ∀ w w' s, VB w s → Up w w' → VB w' s
  call : ∀ (w : World) (s : σ) (l : List Nat) (g c : Nat), VB w s → OwnI w base (some ⟨g, 0, none⟩) l.length c (ints l) → 0 < l.length → g ≠ bx →
    Calls Tryz.prog 119 #[.slice (some ⟨g, 0, none⟩) l.length c, .pointer (some ⟨bx, 0, none⟩)] w fun e w' => e = .returned (.bool (step s l).2) ∧ VB w' (step s l).1 ∧ w.grownBy w' (some bx)
set_option maxRecDepth 100000 in
set_option maxHeartbeats 4000000 in
theorem ordSearchO_any {σ : Type} {step : σ → List Nat → σ × Bool} {VB : World → σ → Prop} {bx base : Nat} (V : VisO σ step bx base VB) (m cC bC bV bS : Nat) (AC : Option Addr) (L : List Nat) (hLm : L.length = m) (hL7 : ∀ x ∈ L, x < 2 ^ 7) (hm0 : 0 < m) (hm : m ≤ 128) (hAC : ∀ ad, AC = some ad → ad.block ≠ bx) :
    ∀ (f : Nat) (l : List Nat) (B : Option Addr) (c : Nat) (w : World) (s : σ), l.length + f = m → (∀ x ∈ l, x < 2 ^ 7) → RI w B l.length (ints l) → (B = none → c = 0) → l.length ≤ c → c ≤ 9223372036854775807 → (∀ ad, B = some ad → ad.block ≠ bx) → RI w AC m (ints L) → OrdBx 119 w AC m cC bC bV bS bx → VB w s → bx < w.heap.size → base ≤ w.heap.size →
    Calls Tryz.prog 143 #[.slice B l.length c, .pointer (some ⟨bC, 0, none⟩), .pointer (some ⟨bV, 0, none⟩), .pointer (some ⟨bS, 0, none⟩)] w fun e w' => e = .returned (.bool (visR step s (ords L f l)).2) ∧ VB w' (visR step s (ords L f l)).1 ∧ w.grownBy w' (some bx) := by
  intro f
  induction f with
  | zero =>
    intro l B c w s hf hl hL hB hlc hc hne hA hbx hv hbw hbase
    have heq : ((l.length : Int) == (m : Int)) = true := by rw [beq_iff_eq]; omega
    have hcs := hbx.cells
    obtain ⟨bd, rfl, _, _⟩ := hL.addr (by omega)
    have h0 : 0 < l.length := by omega
    have h1 : l.length ≤ 1048576 := by omega
    have HR := Lib.hid (show visR step s (ords L 0 l) = step s l from visR_one step s l)
    clear hf hl hL7
    go_enter Tryz.func143, Tryz.ntmps143
    go_wp2
    have hLd := hL.drew
    go_region_with (first
      | (go_at_call 134; refine (slClone_any bd l.length c (ints l) _ hLd h0 h1).mono ?_; rintro e w1 ⟨g, c1, rfl, hown1, hb1⟩; have hU1 : Up w w1 := Below.trans (by go_grown) hb1; have hcs1 := (hbx.gb (hU1.gb _)).cells)
      | (go_at_call 119; refine (V.call w1 s l g c1 (V.up _ _ _ hv hU1) (hown1.more hbase) h0 (fun e => by have := (hown1.block g rfl).1; simp at this; omega)).mono ?_; rintro e w2 ⟨rfl, hv2, hg2⟩))
    all_goals
      go_wp2
      go_ret
      rw [HR.out]
      exact ⟨rfl, hv2, (hU1.gb _).trans hg2⟩
  | succ f ih =>
    intro l B c w s hf hl hL hB hlc hc hne hA hbx hv hbw hbase
    have hneq : ((l.length : Int) == (m : Int)) = false := by rw [beq_eq_false_iff_ne]; omega
    have Hl := Lib.hid hl
    have Ih := Lib.hid ih
    have HALL := Lib.hid (show ordsK L f l m = ords L (f + 1) l by rw [← hLm]; exact ords_all L f l)
    have HPRE := Lib.hid (fun k => ordsK_pre L f l (k := k) m)
    have HB7 := Lib.hid (nb_lt_all (Nat.two_pow_pos 7) hL7)
    have hcs := hbx.cells
    clear hl ih hL7
    go_enter Tryz.func143, Tryz.ntmps143
    go_wp2_with fail
    go_loopw [20] (fun i wr => ∃ (k : Nat) (s' : σ), k ≤ m ∧ i = .int .i64 k ∧ VB wr s' ∧ w.grownBy wr (some bx) ∧ Hid (visR step s (ordsK L f l k) = (s', true))) (fun i _ => m - (intOf i).toNat)
    case atStart => exact ⟨0, s, Nat.zero_le _, rfl, hv, World.grownBy.refl _ _, rfl⟩
    case round =>
      clear hcs
      obtain ⟨k, s', hk, rfl, hv', hb, hR⟩ := hrel
      obtain ⟨wo, rfl⟩ : ∃ wo : World, wo = wr := ⟨_, rfl⟩
      have hbxr := hbx.gb hb
      have hcs := hbxr.cells
      by_cases hkt : k < m
      · have hsz := hb.size
        have hLr := hL.gb hb hne
        have hAr := hA.gb hb hAC
        have HON := Lib.hid (ordsK_on (L := L) (f := f) (k := k) (l := l))
        have HOFF := Lib.hid (ordsK_off (L := L) (f := f) (k := k) (l := l))
        have HMAY := Lib.hid (show mayC l (nb L k) = (!decide (nb L k ∈ l) && fol (l ++ [nb L k])) from rfl)
        have hx7 : nb L k < 128 := HB7.out k
        obtain ⟨a, rfl, hca⟩ := hAr.ints_at hkt
        obtain ⟨x, hx⟩ : ∃ x, x = nb L k := ⟨_, rfl⟩
        rw [← hx] at HON HOFF HMAY hx7 hca
        clear hx
        have hcell := (Blk.new wo 3 #[.int .i64 (x : Int)]).one
        have HB0 := Lib.hid (show B = none → l.length = 0 from fun e => by have := hB e; omega)
        have hll : l.length ≤ 1048576 := by omega
        have hlm : l.length ≤ 9223372036854775807 := by omega
        have hl1 : l.length + 1 ≤ 9223372036854775807 := by omega
        have hfx : l.length + 1 + f = m := by omega
        have hnq := neq_nil
        have Hlx := Lib.hid (show ∀ y ∈ l ++ [x], y < 2 ^ 7 from fun y hy => by
          rcases List.mem_append.1 hy with hy | hy
          · exact Hl.out y hy
          · obtain rfl : y = x := by simpa using hy
            exact hx7)
        have HLen := Lib.hid (show (l ++ [x]).length = l.length + 1 from push_len.symm)
        have hbwo : bx < wo.heap.size := by omega
        have hbaseo : base ≤ wo.heap.size := by omega
        go_wp2_with (at_builtin; refine wpList_more rfl (.tmp 29) (.tmp 31) rfl (x : Int) rfl HB0.out (hLr.alloc _) ⟨wo.heap.size, 0, none⟩ rfl hcell hll ?_; intro A1 c1 w1 hown1 hU1a)
        have hU1 : Up wo w1 := Up.then_ (by go_grown) hU1a
        have hx1 : OwnI w1 wo.heap.size A1 (l.length + 1) c1 (ints (l ++ [x])) := (hown1.more (by simp)).cast rfl (ints_app l x).symm
        obtain ⟨gx, rfl⟩ := hx1.form (by omega)
        have hgx : gx ≠ bx := by have := (hx1.block gx rfl).1; omega
        clear hown1 hcell hcs hca
        have hb1 := hb.trans (hU1.gb (some bx))
        replace hLr := hLr.up hU1
        replace hAr := hAr.up hU1
        replace hbxr := hbxr.gb (hU1.gb _)
        replace hv' := V.up _ _ _ hv' hU1
        have hcs := hbxr.cells
        have hcap := hx1.cap
        have hs1 : wo.heap.size ≤ w1.heap.size := hU1.size
        rcases Bool.eq_false_or_eq_true (decide (x ∈ l)) with e1 | e1
        · have HO := Lib.hid (HOFF.out (by rw [HMAY.out, e1]; rfl))
          rw [← dec_mem] at e1
          refine (slContains_is hLr hlm e1).mono ?_
          clear e1
          rintro e w3 ⟨rfl, rfl⟩
          go_wp2
          go_roundw
          case rel => exact ⟨k + 1, s', by omega, by go_num, hv', hb1, by rw [HO.out]; exact hR.out⟩
          case measure => simp [intOf]; omega
        · have HNI := Lib.hid e1
          rw [← dec_mem] at e1
          have E1 := Lib.hid e1
          clear e1
          rcases Bool.eq_false_or_eq_true (fol (l ++ [x])) with e2 | e2
          · have E2 := Lib.hid e2
            have HO := Lib.hid (HON.out (by rw [HMAY.out, HNI.out, e2]; rfl))
            clear e2
            have hih := Ih.out (l ++ [x]) (some ⟨gx, 0, none⟩) c1 w1 s' (by rw [HLen.out]; exact hfx) Hlx.out (by rw [HLen.out]; exact hx1.ri) (fun e => by cases e) (by rw [HLen.out]; exact hcap.1) hcap.2 (fun ad e => by injection e with e; rw [← e]; exact hgx) hAr hbxr hv' (Nat.lt_of_lt_of_le hbwo hs1) (Nat.le_trans hbaseo hs1)
            rw [HLen.out] at hih
            obtain ⟨p, hp⟩ : ∃ p, p = visR step s' (ords L f (l ++ [x])) := ⟨_, rfl⟩
            rw [← hp] at hih
            obtain ⟨s2, b⟩ := p
            have HP := Lib.hid (show visR step s (ordsK L f l (k + 1)) = (s2, b) by rw [HO.out, visR_on hR.out]; exact hp.symm)
            clear hp
            refine (slContains_is hLr hlm E1.out).mono ?_
            rintro e w3 ⟨rfl, rfl⟩
            go_wp2_with (go_at_call 144; refine (follow_is hx1.ri Hlx.out hl1 E2.out).mono ?_; rintro e w4 ⟨rfl, rfl⟩)
            refine hih.mono ?_
            clear hih
            rintro e w5 ⟨rfl, hv5, hg5⟩
            have hb5 := hb1.trans hg5
            cases b
            · have HQ := Lib.hid (show visR step s (ords L (f + 1) l) = (s2, false) by
                obtain ⟨r, e⟩ := HPRE.out (k + 1) (by omega)
                rw [← HALL.out, e]; exact visR_off HP.out)
              go_wp2
              go_ret
              rw [HQ.out]
              exact ⟨rfl, hv5, hb5⟩
            · go_wp2
              go_roundw
              case rel => exact ⟨k + 1, s2, by omega, by go_num, hv5, hb5, HP.out⟩
              case measure => simp [intOf]; omega
          · have E2 := Lib.hid e2
            have HO := Lib.hid (HOFF.out (by rw [HMAY.out, HNI.out, e2]; rfl))
            clear e2
            refine (slContains_is hLr hlm E1.out).mono ?_
            rintro e w3 ⟨rfl, rfl⟩
            go_wp2_with (go_at_call 144; refine (follow_is hx1.ri Hlx.out hl1 E2.out).mono ?_; rintro e w4 ⟨rfl, rfl⟩)
            go_roundw
            case rel => exact ⟨k + 1, s', by omega, by go_num, hv', hb1, by rw [HO.out]; exact hR.out⟩
            case measure => simp [intOf]; omega
      · obtain rfl : k = m := by omega
        have HQ := Lib.hid (show visR step s (ords L (f + 1) l) = (s', true) by rw [← HALL.out]; exact hR.out)
        go_wp2
        go_ret
        rw [HQ.out]
        exact ⟨rfl, hv', hb⟩
set_option maxRecDepth 100000 in
set_option maxHeartbeats 2000000 in
theorem cliqueOrdersO_any {σ : Type} {step : σ → List Nat → σ × Bool} {VB : World → σ → Prop} {bx base : Nat} (V : VisO σ step bx base VB) (N : Int) (A : Option Addr) (n c : Nat) (X : List Int) (w : World) (s : σ) (hX : RI w A n X) (hn : n ≤ 9223372036854775807) (hv : VB w s) (hbw : bx < w.heap.size) (hbase : base ≤ w.heap.size) :
    Calls Tryz.prog 118 #[.agg #[.int .i64 N, .slice A n c], .func (.func 119) #[] #[.pointer (some ⟨bx, 0, none⟩)]] w fun e w' => e = .returned (.tuple #[]) ∧ VB w' (visR step s (cliqOrds N X)).1 ∧ w.grownBy w' (some bx) := by
  have hG := (Blk.new w 29 #[.int .i64 N, .slice A n c]).alloc (.cells #[.func (.func 119) #[] #[.pointer (some ⟨bx, 0, none⟩)]] 108)
  have hV : Blk ((w.alloc (.cells #[.int .i64 N, .slice A n c] 29)).alloc (.cells #[.func (.func 119) #[] #[.pointer (some ⟨bx, 0, none⟩)]] 108)) (w.heap.size + 1) 108 #[.func (.func 119) #[] #[.pointer (some ⟨bx, 0, none⟩)]] := Blk.new_at (by simp)
  have hU0 : Up w ((w.alloc (.cells #[.int .i64 N, .slice A n c] 29)).alloc (.cells #[.func (.func 119) #[] #[.pointer (some ⟨bx, 0, none⟩)]] 108)) := by go_grown
  obtain ⟨b, hb⟩ : ∃ b, b = (elimOf N X).isSome := ⟨_, rfl⟩
  have HC := Lib.hid hb.symm
  clear hb
  go_enter Tryz.func118, Tryz.ntmps118
  go_wp2_with fail
  refine (implMaximalCliques_any N A n c X _ (hX.up hU0) hn).mono ?_
  intro e w1 hg1
  obtain ⟨AC, cC, rfl, hownC, hb1⟩ := hg1.out
  clear hg1
  have hU1 : Up w w1 := Up.then_ hU0 hb1
  replace hG := hG.up hb1
  replace hV := hV.up hb1
  have hyG := hG.two
  have hlG := hG.lt
  have hlV := hV.lt
  obtain ⟨L, hL⟩ : ∃ L, L = maxCliquesOf N X := ⟨_, rfl⟩
  rw [← hL] at hownC ⊢
  have HL := Lib.hid hL
  clear hL
  go_wp2_with fail
  obtain ⟨w2, hw2⟩ : ∃ w2, w2 = (w1.alloc (.cells #[.slice AC L.length cC] 24)).alloc (.cells #[.func (.func 143) #[] #[.pointer (some ⟨w1.heap.size, 0, none⟩), .pointer (some ⟨w.heap.size + 1, 0, none⟩), .pointer (some ⟨w1.heap.size + 1, 0, none⟩)]] 108) := ⟨_, rfl⟩
  have hbC : Blk w2 w1.heap.size 24 #[.slice AC L.length cC] := by rw [hw2]; exact (Blk.new w1 _ _).alloc _
  have hbS : Blk w2 (w1.heap.size + 1) 108 #[.func (.func 143) #[] #[.pointer (some ⟨w1.heap.size, 0, none⟩), .pointer (some ⟨w.heap.size + 1, 0, none⟩), .pointer (some ⟨w1.heap.size + 1, 0, none⟩)]] := by rw [hw2]; exact Blk.new_at (by simp)
  have hU2 : Up w1 w2 := by rw [hw2]; go_grown
  rw [← hw2]
  clear hw2 hyG hlG hlV
  have hw12 := Up.then_ hU1 hU2
  refine (implIsChordal_is (hX.up hw12) hn HC.out).mono ?_
  rintro e w3 ⟨rfl, hb3⟩
  have hw3 := Up.then_ hw12 hb3
  have hv3 := V.up _ _ _ hv hw3
  cases b
  · have HO := Lib.hid (cliqOrds_no HC.out)
    go_wp2
    go_end0
    rw [HO.out]
    exact ⟨rfl, hv3, hw3.gb _⟩
  · have HO := Lib.hid (cliqOrds_yes HC.out)
    have hok := cliques_ok HC.out
    rw [← HL.out] at hok HO
    have hsz1 := hU1.size
    have hbx : OrdBx 119 w3 AC L.length cC w1.heap.size (w.heap.size + 1) (w1.heap.size + 1) bx := ⟨hbC.up hb3, (hV.up hU2).up hb3, hbS.up hb3, by omega, by omega, by omega⟩
    have hown3 := (hownC.up hU2).up hb3
    have hAC : ∀ ad, AC = some ad → ad.block ≠ bx := by
      obtain ⟨g, rfl⟩ := hown3.form hok.2.1
      intro ad e
      injection e with e
      subst e
      have := (hown3.block g rfl).1
      have h4 := hU0.size
      show g ≠ bx
      omega
    have hcs := hbx.cells
    have hsz3 := hw3.size
    have hcall := ordSearchO_any V L.length cC w1.heap.size (w.heap.size + 1) (w1.heap.size + 1) AC L rfl hok.1 hok.2.1 hok.2.2 hAC L.length [] none 0 w3 s (by simp) (by simp) RI.nil_ (fun _ => rfl) (by simp) (by omega) (fun ad e => by cases e) hown3.ri hbx hv3 (by omega) (by omega)
    go_wp2_with fail
    refine hcall.mono ?_
    clear hcall
    rintro e w4 ⟨rfl, hv4, hg4⟩
    go_wp2
    go_end0
    rw [HO.out]
    exact ⟨rfl, hv4, (hw3.gb _).trans hg4⟩
def ordOf (N : Int) (X : List Int) : Option (List Nat) := (cliqOrds N X).head?
/-- The box of the visitor of CliqueOrderOf. -/
def VBO (bx base : Nat) (w : World) (s : Option (List Nat)) : Prop :=
  match s with
  | none => Blk w bx 24 #[.slice none 0 0]
  | some q => ∃ g c, Blk w bx 24 #[.slice (some ⟨g, 0, none⟩) q.length c] ∧ OwnI w base (some ⟨g, 0, none⟩) q.length c (ints q)
set_option maxRecDepth 100000 in
theorem VBO.blk {bx base : Nat} {w : World} {s : Option (List Nat)} (h : VBO bx base w s) : ∃ v, Blk w bx 24 #[v] := by
  rcases s with _ | q
  · exact ⟨_, h⟩
  · obtain ⟨g, c, h1, _⟩ := h
    exact ⟨_, h1⟩
set_option maxRecDepth 100000 in
theorem VBO.up {bx base : Nat} {w w' : World} {s : Option (List Nat)} (h : VBO bx base w s) (hb : Up w w') : VBO bx base w' s := by
  rcases s with _ | q
  · exact Blk.up h hb
  · obtain ⟨g, c, h1, h2⟩ := h
    exact ⟨g, c, h1.up hb, h2.up hb⟩
set_option maxRecDepth 100000 in
theorem visO_ok (bx base : Nat) : VisO (Option (List Nat)) stepF bx base (VBO bx base) := by
  refine ⟨fun w w' s h hb => h.up hb, fun w s l g c hv hown h0 hne => ?_⟩
  obtain ⟨v, hblk⟩ := hv.blk
  have hy := hblk.one
  have hf := hblk.frozen 0
  have hset := hblk.set_ 0 (.slice (some ⟨g, 0, none⟩) l.length c)
  have hown2 := hown.kept (grown_setCell w ⟨bx, 0, none⟩ (.slice (some ⟨g, 0, none⟩) l.length c)) (.inr (by simp [Value.ownBlock]; exact hne))
  have hg2 := grown_setCell w ⟨bx, 0, none⟩ (.slice (some ⟨g, 0, none⟩) l.length c)
  clear hv hown hblk
  go_enter Tryz.func119, Tryz.ntmps119
  go_wp2
  go_ret
  exact ⟨rfl, ⟨g, c, hset, hown2⟩, hg2⟩
set_option maxRecDepth 100000 in
set_option maxHeartbeats 2000000 in
theorem implCliqueOrderOf_any (N : Int) (A : Option Addr) (n c : Nat) (X : List Int) (w : World) (hX : RI w A n X) (hn : n ≤ 9223372036854775807) :
    Calls Tryz.prog 70 #[.agg #[.int .i64 N, .slice A n c]] w (GivesIB (optL (ordOf N X)) (ordOf N X).isSome w) := by
  have hnq := neq_nil
  have HF := Lib.hid (visR_first (cliqOrds N X))
  go_enter Tryz.func70, Tryz.ntmps70
  go_wp2_with fail
  obtain ⟨w1, hw1⟩ : ∃ w1, w1 = (w.alloc (.cells #[.int .i64 N, .slice A n c] 29)).alloc (.cells #[.slice none 0 0] 24) := ⟨_, rfl⟩
  have hbx : Blk w1 (w.heap.size + 1) 24 #[.slice none 0 0] := by rw [hw1]; exact Blk.new_at (by simp)
  have hU1 : Up w w1 := by rw [hw1]; go_grown
  rw [← hw1]
  clear hw1
  have hlx := hbx.lt
  refine (cliqueOrdersO_any (visO_ok (w.heap.size + 1) w.heap.size) N A n c X w1 none (hX.up hU1) hn hbx hlx hU1.size).mono ?_
  rintro e w2 ⟨rfl, hv2, hg2⟩
  rw [HF.out] at hv2
  have hb2 : Below w.heap.size w w2 := hU1.grown hg2 hU1.size fun k hk => by injection hk with hk; omega
  have HO := Lib.hid (show ordOf N X = (cliqOrds N X).head? from rfl)
  rcases hr : (cliqOrds N X).head? with _ | q
  · rw [hr] at hv2 HO
    clear hr
    have hy : w2.cell? ⟨w.heap.size + 1, 0, none⟩ = some (.slice none 0 0) := Blk.one hv2
    go_wp2
    go_quiet (fail)
    go_wp2
    go_ret2
    rw [HO.out]
    exact givesIB_none (OwnI.nil_ _ _) (Nat.le_refl _) (below_drewN hb2 _)
  · rw [hr] at hv2 HO
    clear hr
    obtain ⟨g, c1, hb4, hown⟩ := hv2
    have hy : w2.cell? ⟨w.heap.size + 1, 0, none⟩ = some (.slice (some ⟨g, 0, none⟩) q.length c1) := hb4.one
    go_wp2
    go_quiet (fail)
    go_wp2
    go_ret2
    rw [HO.out]
    exact givesIB_some (hown.drewN _) (Nat.le_refl _) (below_drewN hb2 _)
set_option maxRecDepth 100000 in
theorem implIsInterval_any (N : Int) (A : Option Addr) (n c : Nat) (X : List Int) (w : World) (hX : RI w A n X) (hn : n ≤ 9223372036854775807) :
    Calls Tryz.prog 18 #[.agg #[.int .i64 N, .slice A n c]] w fun e w' => e = .returned (.bool (ordOf N X).isSome) ∧ Below w.heap.size w w' := by
  go_enter Tryz.func18, Tryz.ntmps18
  go_wp2_with fail
  refine (implCliqueOrderOf_any N A n c X _ (hX.up (by go_grown)) hn).mono ?_
  rintro e w1 ⟨A1, c1, rfl, hown, hb1⟩
  have hU1 : Up w w1 := Up.then_ (by go_grown) hb1
  go_wp2
  go_ret
  exact ⟨rfl, hU1⟩
end Go.Proofs.YthncdjcmlpiebaaGreatDoor
namespace Go.Proofs.YthncdjcmlpiebaaGreatDoor
open Go.RowKit
set_option maxRecDepth 100000 in
theorem min_one_some {os : List (List Nat)} (h : 0 < os.length) : min os.length 1 = 1 ∧ ∃ q, os.head? = some q := by
  rcases os with _ | ⟨q, t⟩
  · simp at h
  · exact ⟨by simp, q, rfl⟩
end Go.Proofs.YthncdjcmlpiebaaGreatDoor
