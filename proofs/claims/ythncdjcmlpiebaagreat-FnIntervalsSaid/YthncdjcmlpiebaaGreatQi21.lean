/- Walks of chapter 10: the program's search for orders of cliques (CliqueOrderOf). Walks of chapter 10: the reference's orders of cliques. Walks of chapter 10: the model of an order of sets. -/
import Derived.Test.YthncdjcmlpiebaaGreatQi01
import Derived.Test.YthncdjcmlpiebaaGreatQi02
import Derived.Test.YthncdjcmlpiebaaGreatQi03
import Derived.Test.YthncdjcmlpiebaaGreatQi04
import Derived.Test.YthncdjcmlpiebaaGreatQi08
import Derived.Test.YthncdjcmlpiebaaGreatQi10
import Derived.Test.YthncdjcmlpiebaaGreatQi19
import Derived.Deep.RegionLaw
import Derived.Deep.RegionWith
import Derived.Maps.AppendAt
namespace Go.Proofs.YthncdjcmlpiebaaGreat
open Go.RowKit
set_option maxRecDepth 100000 in
theorem Up.gb {w w' : World} (h : Up w w') (row : Option Nat) : w.grownBy w' row := only_of_below h row
set_option maxRecDepth 100000 in
theorem RI.gb {w w' : World} {A : Option Addr} {n bx : Nat} {xs : List Int} (h : RI w A n xs) (hg : w.grownBy w' (some bx)) (hr : ∀ ad, A = some ad → ad.block ≠ bx) : RI w' A n xs :=
  h.grown hg fun ad e k => hr ad e (by injection k)
set_option maxRecDepth 100000 in
theorem Blk.gb {w w' : World} {g bx : Nat} {t : TypeId} {cs : Array Value} (h : Blk w g t cs) (hg : w.grownBy w' (some bx)) (hr : g ≠ bx) : Blk w' g t cs :=
  h.grown hg fun e => hr (by injection e)
/-- The variables that the search captures: the cliques, what visits, the search. -/
structure OrdBx (vf : FuncId) (w : World) (AC : Option Addr) (m cC bC bV bS bx : Nat) : Prop where
  c : Blk w bC 24 #[.slice AC m cC]
  v : Blk w bV 61 #[.func (.func vf) #[] #[.pointer (some ⟨bx, 0, none⟩)]]
  s : Blk w bS 61 #[.func (.func 142) #[] #[.pointer (some ⟨bC, 0, none⟩), .pointer (some ⟨bV, 0, none⟩), .pointer (some ⟨bS, 0, none⟩)]]
  nc : bC ≠ bx
  nv : bV ≠ bx
  ns : bS ≠ bx
set_option maxRecDepth 100000 in
theorem OrdBx.gb {vf : FuncId} {w w' : World} {AC : Option Addr} {m cC bC bV bS bx : Nat} (h : OrdBx vf w AC m cC bC bV bS bx) (hg : w.grownBy w' (some bx)) : OrdBx vf w' AC m cC bC bV bS bx :=
  ⟨h.c.gb hg h.nc, h.v.gb hg h.nv, h.s.gb hg h.ns, h.nc, h.nv, h.ns⟩
set_option maxRecDepth 100000 in
theorem OrdBx.cells {vf : FuncId} {w : World} {AC : Option Addr} {m cC bC bV bS bx : Nat} (h : OrdBx vf w AC m cC bC bV bS bx) :
    w.cell? ⟨bC, 0, none⟩ = some (.slice AC m cC) ∧ w.cell? ⟨bV, 0, none⟩ = some (.func (.func vf) #[] #[.pointer (some ⟨bx, 0, none⟩)]) ∧
    w.cell? ⟨bS, 0, none⟩ = some (.func (.func 142) #[] #[.pointer (some ⟨bC, 0, none⟩), .pointer (some ⟨bV, 0, none⟩), .pointer (some ⟨bS, 0, none⟩)]) := ⟨h.c.one, h.v.one, h.s.one⟩
/-- What the visitor does, and what it keeps in its box. -/
structure VisO (σ : Type) (step : σ → List Nat → σ × Bool) (bx base : Nat) (VB : World → σ → Prop) : Prop where
  up : ∀ w w' s, VB w s → Up w w' → VB w' s
  call : ∀ (w : World) (s : σ) (l : List Nat) (g c : Nat), VB w s → OwnI w base (some ⟨g, 0, none⟩) l.length c (ints l) → 0 < l.length → g ≠ bx →
    Calls Tryz.prog 90 #[.slice (some ⟨g, 0, none⟩) l.length c, .pointer (some ⟨bx, 0, none⟩)] w fun e w' => e = .returned (.bool (step s l).2) ∧ VB w' (step s l).1 ∧ w.grownBy w' (some bx)
set_option maxRecDepth 100000 in
set_option maxHeartbeats 4000000 in
theorem ordSearchO_any {σ : Type} {step : σ → List Nat → σ × Bool} {VB : World → σ → Prop} {bx base : Nat} (V : VisO σ step bx base VB) (m cC bC bV bS : Nat) (AC : Option Addr) (L : List Nat) (hLm : L.length = m) (hL7 : ∀ x ∈ L, x < 2 ^ 7) (hm0 : 0 < m) (hm : m ≤ 128) (hAC : ∀ ad, AC = some ad → ad.block ≠ bx) :
    ∀ (f : Nat) (l : List Nat) (B : Option Addr) (c : Nat) (w : World) (s : σ), l.length + f = m → (∀ x ∈ l, x < 2 ^ 7) → RI w B l.length (ints l) → (B = none → c = 0) → l.length ≤ c → c ≤ 9223372036854775807 → (∀ ad, B = some ad → ad.block ≠ bx) → RI w AC m (ints L) → OrdBx 90 w AC m cC bC bV bS bx → VB w s → bx < w.heap.size → base ≤ w.heap.size →
    Calls Tryz.prog 142 #[.slice B l.length c, .pointer (some ⟨bC, 0, none⟩), .pointer (some ⟨bV, 0, none⟩), .pointer (some ⟨bS, 0, none⟩)] w fun e w' => e = .returned (.bool (visR step s (ords L f l)).2) ∧ VB w' (visR step s (ords L f l)).1 ∧ w.grownBy w' (some bx) := by
  intro f
  induction f with
  | zero =>
    intro l B c w s hf hl hL hB hlc hc hne hA hbx hv hbw hbase
    have heq : ((l.length : Int) == (m : Int)) = true := by rw [beq_iff_eq]; omega
    have hcs := hbx.cells
    obtain ⟨bd, rfl, _, _⟩ := hL.addr (by omega)
    have h0 : 0 < l.length := by omega
    have h1 : l.length ≤ 1048576 := by omega
    have HR := Lib.hid (show visR step s (ords L 0 l) = step s l from visR_one step s l)
    clear hf hl hL7
    go_enter Tryz.func142, Tryz.ntmps142
    go_wp2
    have hLd := hL.drew
    go_region_with (first
      | (go_at_call 125; refine (slClone_any bd l.length c (ints l) _ hLd h0 h1).mono ?_; rintro e w1 ⟨g, c1, rfl, hown1, hb1⟩; have hU1 : Up w w1 := Below.trans (by go_grown) hb1; have hcs1 := (hbx.gb (hU1.gb _)).cells)
      | (go_at_call 90; refine (V.call w1 s l g c1 (V.up _ _ _ hv hU1) (hown1.more hbase) h0 (fun e => by have := (hown1.block g rfl).1; simp at this; omega)).mono ?_; rintro e w2 ⟨rfl, hv2, hg2⟩))
    all_goals
      go_wp2
      go_ret
      rw [HR.out]
      exact ⟨rfl, hv2, (hU1.gb _).trans hg2⟩
  | succ f ih =>
    intro l B c w s hf hl hL hB hlc hc hne hA hbx hv hbw hbase
    have hneq : ((l.length : Int) == (m : Int)) = false := by rw [beq_eq_false_iff_ne]; omega
    have Hl := Lib.hid hl
    have Ih := Lib.hid ih
    have HALL := Lib.hid (show ordsK L f l m = ords L (f + 1) l by rw [← hLm]; exact ords_all L f l)
    have HPRE := Lib.hid (fun k => ordsK_pre L f l (k := k) m)
    have HB7 := Lib.hid (nb_lt_all (Nat.two_pow_pos 7) hL7)
    have hcs := hbx.cells
    clear hl ih hL7
    go_enter Tryz.func142, Tryz.ntmps142
    go_wp2_with fail
    go_loopw [20] (fun i wr => ∃ (k : Nat) (s' : σ), k ≤ m ∧ i = .int .i64 k ∧ VB wr s' ∧ w.grownBy wr (some bx) ∧ Hid (visR step s (ordsK L f l k) = (s', true))) (fun i _ => m - (intOf i).toNat)
    case atStart => exact ⟨0, s, Nat.zero_le _, rfl, hv, World.grownBy.refl _ _, rfl⟩
    case round =>
      clear hcs
      obtain ⟨k, s', hk, rfl, hv', hb, hR⟩ := hrel
      obtain ⟨wo, rfl⟩ : ∃ wo : World, wo = wr := ⟨_, rfl⟩
      have hbxr := hbx.gb hb
      have hcs := hbxr.cells
      by_cases hkt : k < m
      · have hsz := hb.size
        have hLr := hL.gb hb hne
        have hAr := hA.gb hb hAC
        have HON := Lib.hid (ordsK_on (L := L) (f := f) (k := k) (l := l))
        have HOFF := Lib.hid (ordsK_off (L := L) (f := f) (k := k) (l := l))
        have HMAY := Lib.hid (show mayC l (nb L k) = (!decide (nb L k ∈ l) && fol (l ++ [nb L k])) from rfl)
        have hx7 : nb L k < 128 := HB7.out k
        obtain ⟨a, rfl, hca⟩ := hAr.ints_at hkt
        obtain ⟨x, hx⟩ : ∃ x, x = nb L k := ⟨_, rfl⟩
        rw [← hx] at HON HOFF HMAY hx7 hca
        clear hx
        have hcell := (Blk.new wo 3 #[.int .i64 (x : Int)]).one
        have HB0 := Lib.hid (show B = none → l.length = 0 from fun e => by have := hB e; omega)
        have hll : l.length ≤ 1048576 := by omega
        have hlm : l.length ≤ 9223372036854775807 := by omega
        have hl1 : l.length + 1 ≤ 9223372036854775807 := by omega
        have hfx : l.length + 1 + f = m := by omega
        have hnq := neq_nil
        have Hlx := Lib.hid (show ∀ y ∈ l ++ [x], y < 2 ^ 7 from fun y hy => by
          rcases List.mem_append.1 hy with hy | hy
          · exact Hl.out y hy
          · obtain rfl : y = x := by simpa using hy
            exact hx7)
        have HLen := Lib.hid (show (l ++ [x]).length = l.length + 1 from push_len.symm)
        have hbwo : bx < wo.heap.size := by omega
        have hbaseo : base ≤ wo.heap.size := by omega
        go_wp2_with (at_builtin; refine wpList_more rfl (.tmp 29) (.tmp 31) rfl (x : Int) rfl HB0.out (hLr.alloc _) ⟨wo.heap.size, 0, none⟩ rfl hcell hll ?_; intro A1 c1 w1 hown1 hU1a)
        have hU1 : Up wo w1 := Up.then_ (by go_grown) hU1a
        have hx1 : OwnI w1 wo.heap.size A1 (l.length + 1) c1 (ints (l ++ [x])) := (hown1.more (by simp)).cast rfl (ints_app l x).symm
        obtain ⟨gx, rfl⟩ := hx1.form (by omega)
        have hgx : gx ≠ bx := by have := (hx1.block gx rfl).1; omega
        clear hown1 hcell hcs hca
        have hb1 := hb.trans (hU1.gb (some bx))
        replace hLr := hLr.up hU1
        replace hAr := hAr.up hU1
        replace hbxr := hbxr.gb (hU1.gb _)
        replace hv' := V.up _ _ _ hv' hU1
        have hcs := hbxr.cells
        have hcap := hx1.cap
        have hs1 : wo.heap.size ≤ w1.heap.size := hU1.size
        rcases Bool.eq_false_or_eq_true (decide (x ∈ l)) with e1 | e1
        · have HO := Lib.hid (HOFF.out (by rw [HMAY.out, e1]; rfl))
          rw [← dec_mem] at e1
          refine (slContains_is hLr hlm e1).mono ?_
          clear e1
          rintro e w3 ⟨rfl, rfl⟩
          go_wp2
          go_roundw
          case rel => exact ⟨k + 1, s', by omega, by go_num, hv', hb1, by rw [HO.out]; exact hR.out⟩
          case measure => simp [intOf]; omega
        · have HNI := Lib.hid e1
          rw [← dec_mem] at e1
          have E1 := Lib.hid e1
          clear e1
          rcases Bool.eq_false_or_eq_true (fol (l ++ [x])) with e2 | e2
          · have E2 := Lib.hid e2
            have HO := Lib.hid (HON.out (by rw [HMAY.out, HNI.out, e2]; rfl))
            clear e2
            have hih := Ih.out (l ++ [x]) (some ⟨gx, 0, none⟩) c1 w1 s' (by rw [HLen.out]; exact hfx) Hlx.out (by rw [HLen.out]; exact hx1.ri) (fun e => by cases e) (by rw [HLen.out]; exact hcap.1) hcap.2 (fun ad e => by injection e with e; rw [← e]; exact hgx) hAr hbxr hv' (Nat.lt_of_lt_of_le hbwo hs1) (Nat.le_trans hbaseo hs1)
            rw [HLen.out] at hih
            obtain ⟨p, hp⟩ : ∃ p, p = visR step s' (ords L f (l ++ [x])) := ⟨_, rfl⟩
            rw [← hp] at hih
            obtain ⟨s2, b⟩ := p
            have HP := Lib.hid (show visR step s (ordsK L f l (k + 1)) = (s2, b) by rw [HO.out, visR_on hR.out]; exact hp.symm)
            clear hp
            refine (slContains_is hLr hlm E1.out).mono ?_
            rintro e w3 ⟨rfl, rfl⟩
            go_wp2_with (go_at_call 98; refine (follow_is hx1.ri Hlx.out hl1 E2.out).mono ?_; rintro e w4 ⟨rfl, rfl⟩)
            refine hih.mono ?_
            clear hih
            rintro e w5 ⟨rfl, hv5, hg5⟩
            have hb5 := hb1.trans hg5
            cases b
            · have HQ := Lib.hid (show visR step s (ords L (f + 1) l) = (s2, false) by
                obtain ⟨r, e⟩ := HPRE.out (k + 1) (by omega)
                rw [← HALL.out, e]; exact visR_off HP.out)
              go_wp2
              go_ret
              rw [HQ.out]
              exact ⟨rfl, hv5, hb5⟩
            · go_wp2
              go_roundw
              case rel => exact ⟨k + 1, s2, by omega, by go_num, hv5, hb5, HP.out⟩
              case measure => simp [intOf]; omega
          · have E2 := Lib.hid e2
            have HO := Lib.hid (HOFF.out (by rw [HMAY.out, HNI.out, e2]; rfl))
            clear e2
            refine (slContains_is hLr hlm E1.out).mono ?_
            rintro e w3 ⟨rfl, rfl⟩
            go_wp2_with (go_at_call 98; refine (follow_is hx1.ri Hlx.out hl1 E2.out).mono ?_; rintro e w4 ⟨rfl, rfl⟩)
            go_roundw
            case rel => exact ⟨k + 1, s', by omega, by go_num, hv', hb1, by rw [HO.out]; exact hR.out⟩
            case measure => simp [intOf]; omega
      · obtain rfl : k = m := by omega
        have HQ := Lib.hid (show visR step s (ords L (f + 1) l) = (s', true) by rw [← HALL.out]; exact hR.out)
        go_wp2
        go_ret
        rw [HQ.out]
        exact ⟨rfl, hv', hb⟩
set_option maxRecDepth 100000 in
set_option maxHeartbeats 2000000 in
theorem cliqueOrdersO_any {σ : Type} {step : σ → List Nat → σ × Bool} {VB : World → σ → Prop} {bx base : Nat} (V : VisO σ step bx base VB) (N : Int) (A : Option Addr) (n c : Nat) (X : List Int) (w : World) (s : σ) (hX : RI w A n X) (hn : n ≤ 9223372036854775807) (hv : VB w s) (hbw : bx < w.heap.size) (hbase : base ≤ w.heap.size) :
    Calls Tryz.prog 89 #[.agg #[.int .i64 N, .slice A n c], .func (.func 90) #[] #[.pointer (some ⟨bx, 0, none⟩)]] w fun e w' => e = .returned (.tuple #[]) ∧ VB w' (visR step s (cliqOrds N X)).1 ∧ w.grownBy w' (some bx) := by
  have hG := (Blk.new w 26 #[.int .i64 N, .slice A n c]).alloc (.cells #[.func (.func 90) #[] #[.pointer (some ⟨bx, 0, none⟩)]] 61)
  have hV : Blk ((w.alloc (.cells #[.int .i64 N, .slice A n c] 26)).alloc (.cells #[.func (.func 90) #[] #[.pointer (some ⟨bx, 0, none⟩)]] 61)) (w.heap.size + 1) 61 #[.func (.func 90) #[] #[.pointer (some ⟨bx, 0, none⟩)]] := Blk.new_at (by simp)
  have hU0 : Up w ((w.alloc (.cells #[.int .i64 N, .slice A n c] 26)).alloc (.cells #[.func (.func 90) #[] #[.pointer (some ⟨bx, 0, none⟩)]] 61)) := by go_grown
  obtain ⟨b, hb⟩ : ∃ b, b = (elimOf N X).isSome := ⟨_, rfl⟩
  have HC := Lib.hid hb.symm
  clear hb
  go_enter Tryz.func89, Tryz.ntmps89
  go_wp2_with fail
  refine (implMaximalCliques_any N A n c X _ (hX.up hU0) hn).mono ?_
  intro e w1 hg1
  obtain ⟨AC, cC, rfl, hownC, hb1⟩ := hg1.out
  clear hg1
  have hU1 : Up w w1 := Up.then_ hU0 hb1
  replace hG := hG.up hb1
  replace hV := hV.up hb1
  have hyG := hG.two
  have hlG := hG.lt
  have hlV := hV.lt
  obtain ⟨L, hL⟩ : ∃ L, L = maxCliquesOf N X := ⟨_, rfl⟩
  rw [← hL] at hownC ⊢
  have HL := Lib.hid hL
  clear hL
  go_wp2_with fail
  obtain ⟨w2, hw2⟩ : ∃ w2, w2 = (w1.alloc (.cells #[.slice AC L.length cC] 24)).alloc (.cells #[.func (.func 142) #[] #[.pointer (some ⟨w1.heap.size, 0, none⟩), .pointer (some ⟨w.heap.size + 1, 0, none⟩), .pointer (some ⟨w1.heap.size + 1, 0, none⟩)]] 61) := ⟨_, rfl⟩
  have hbC : Blk w2 w1.heap.size 24 #[.slice AC L.length cC] := by rw [hw2]; exact (Blk.new w1 _ _).alloc _
  have hbS : Blk w2 (w1.heap.size + 1) 61 #[.func (.func 142) #[] #[.pointer (some ⟨w1.heap.size, 0, none⟩), .pointer (some ⟨w.heap.size + 1, 0, none⟩), .pointer (some ⟨w1.heap.size + 1, 0, none⟩)]] := by rw [hw2]; exact Blk.new_at (by simp)
  have hU2 : Up w1 w2 := by rw [hw2]; go_grown
  rw [← hw2]
  clear hw2 hyG hlG hlV
  have hw12 := Up.then_ hU1 hU2
  refine (implIsChordal_is (hX.up hw12) hn HC.out).mono ?_
  rintro e w3 ⟨rfl, hb3⟩
  have hw3 := Up.then_ hw12 hb3
  have hv3 := V.up _ _ _ hv hw3
  cases b
  · have HO := Lib.hid (cliqOrds_no HC.out)
    go_wp2
    go_end0
    rw [HO.out]
    exact ⟨rfl, hv3, hw3.gb _⟩
  · have HO := Lib.hid (cliqOrds_yes HC.out)
    have hok := cliques_ok HC.out
    rw [← HL.out] at hok HO
    have hsz1 := hU1.size
    have hbx : OrdBx 90 w3 AC L.length cC w1.heap.size (w.heap.size + 1) (w1.heap.size + 1) bx := ⟨hbC.up hb3, (hV.up hU2).up hb3, hbS.up hb3, by omega, by omega, by omega⟩
    have hown3 := (hownC.up hU2).up hb3
    have hAC : ∀ ad, AC = some ad → ad.block ≠ bx := by
      obtain ⟨g, rfl⟩ := hown3.form hok.2.1
      intro ad e
      injection e with e
      subst e
      have := (hown3.block g rfl).1
      have h4 := hU0.size
      show g ≠ bx
      omega
    have hcs := hbx.cells
    have hsz3 := hw3.size
    have hcall := ordSearchO_any V L.length cC w1.heap.size (w.heap.size + 1) (w1.heap.size + 1) AC L rfl hok.1 hok.2.1 hok.2.2 hAC L.length [] none 0 w3 s (by simp) (by simp) RI.nil_ (fun _ => rfl) (by simp) (by omega) (fun ad e => by cases e) hown3.ri hbx hv3 (by omega) (by omega)
    go_wp2_with fail
    refine hcall.mono ?_
    clear hcall
    rintro e w4 ⟨rfl, hv4, hg4⟩
    go_wp2
    go_end0
    rw [HO.out]
    exact ⟨rfl, hv4, (hw3.gb _).trans hg4⟩
def ordOf (N : Int) (X : List Int) : Option (List Nat) := (cliqOrds N X).head?
/-- The box of the visitor of CliqueOrderOf. -/
def VBO (bx base : Nat) (w : World) (s : Option (List Nat)) : Prop :=
  match s with
  | none => Blk w bx 24 #[.slice none 0 0]
  | some q => ∃ g c, Blk w bx 24 #[.slice (some ⟨g, 0, none⟩) q.length c] ∧ OwnI w base (some ⟨g, 0, none⟩) q.length c (ints q)
set_option maxRecDepth 100000 in
theorem VBO.blk {bx base : Nat} {w : World} {s : Option (List Nat)} (h : VBO bx base w s) : ∃ v, Blk w bx 24 #[v] := by
  rcases s with _ | q
  · exact ⟨_, h⟩
  · obtain ⟨g, c, h1, _⟩ := h
    exact ⟨_, h1⟩
set_option maxRecDepth 100000 in
theorem VBO.up {bx base : Nat} {w w' : World} {s : Option (List Nat)} (h : VBO bx base w s) (hb : Up w w') : VBO bx base w' s := by
  rcases s with _ | q
  · exact Blk.up h hb
  · obtain ⟨g, c, h1, h2⟩ := h
    exact ⟨g, c, h1.up hb, h2.up hb⟩
set_option maxRecDepth 100000 in
theorem visO_ok (bx base : Nat) : VisO (Option (List Nat)) stepF bx base (VBO bx base) := by
  refine ⟨fun w w' s h hb => h.up hb, fun w s l g c hv hown h0 hne => ?_⟩
  obtain ⟨v, hblk⟩ := hv.blk
  have hy := hblk.one
  have hf := hblk.frozen 0
  have hset := hblk.set_ 0 (.slice (some ⟨g, 0, none⟩) l.length c)
  have hown2 := hown.kept (grown_setCell w ⟨bx, 0, none⟩ (.slice (some ⟨g, 0, none⟩) l.length c)) (.inr (by simp [Value.ownBlock]; exact hne))
  have hg2 := grown_setCell w ⟨bx, 0, none⟩ (.slice (some ⟨g, 0, none⟩) l.length c)
  clear hv hown hblk
  go_enter Tryz.func90, Tryz.ntmps90
  go_wp2
  go_ret
  exact ⟨rfl, ⟨g, c, hset, hown2⟩, hg2⟩
set_option maxRecDepth 100000 in
set_option maxHeartbeats 2000000 in
theorem implCliqueOrderOf_any (N : Int) (A : Option Addr) (n c : Nat) (X : List Int) (w : World) (hX : RI w A n X) (hn : n ≤ 9223372036854775807) :
    Calls Tryz.prog 30 #[.agg #[.int .i64 N, .slice A n c]] w (GivesIB (optL (ordOf N X)) (ordOf N X).isSome w) := by
  have hnq := neq_nil
  have HF := Lib.hid (visR_first (cliqOrds N X))
  go_enter Tryz.func30, Tryz.ntmps30
  go_wp2_with fail
  obtain ⟨w1, hw1⟩ : ∃ w1, w1 = (w.alloc (.cells #[.int .i64 N, .slice A n c] 26)).alloc (.cells #[.slice none 0 0] 24) := ⟨_, rfl⟩
  have hbx : Blk w1 (w.heap.size + 1) 24 #[.slice none 0 0] := by rw [hw1]; exact Blk.new_at (by simp)
  have hU1 : Up w w1 := by rw [hw1]; go_grown
  rw [← hw1]
  clear hw1
  have hlx := hbx.lt
  refine (cliqueOrdersO_any (visO_ok (w.heap.size + 1) w.heap.size) N A n c X w1 none (hX.up hU1) hn hbx hlx hU1.size).mono ?_
  rintro e w2 ⟨rfl, hv2, hg2⟩
  rw [HF.out] at hv2
  have hb2 : Below w.heap.size w w2 := hU1.grown hg2 hU1.size fun k hk => by injection hk with hk; omega
  have HO := Lib.hid (show ordOf N X = (cliqOrds N X).head? from rfl)
  rcases hr : (cliqOrds N X).head? with _ | q
  · rw [hr] at hv2 HO
    clear hr
    have hy : w2.cell? ⟨w.heap.size + 1, 0, none⟩ = some (.slice none 0 0) := Blk.one hv2
    go_wp2
    go_quiet (fail)
    go_wp2
    go_ret2
    rw [HO.out]
    exact givesIB_none (OwnI.nil_ _ _) (Nat.le_refl _) (below_drewN hb2 _)
  · rw [hr] at hv2 HO
    clear hr
    obtain ⟨g, c1, hb4, hown⟩ := hv2
    have hy : w2.cell? ⟨w.heap.size + 1, 0, none⟩ = some (.slice (some ⟨g, 0, none⟩) q.length c1) := hb4.one
    go_wp2
    go_quiet (fail)
    go_wp2
    go_ret2
    rw [HO.out]
    exact givesIB_some (hown.drewN _) (Nat.le_refl _) (below_drewN hb2 _)
set_option maxRecDepth 100000 in
theorem implIsInterval_any (N : Int) (A : Option Addr) (n c : Nat) (X : List Int) (w : World) (hX : RI w A n X) (hn : n ≤ 9223372036854775807) :
    Calls Tryz.prog 34 #[.agg #[.int .i64 N, .slice A n c]] w fun e w' => e = .returned (.bool (ordOf N X).isSome) ∧ Below w.heap.size w w' := by
  go_enter Tryz.func34, Tryz.ntmps34
  go_wp2_with fail
  refine (implCliqueOrderOf_any N A n c X _ (hX.up (by go_grown)) hn).mono ?_
  rintro e w1 ⟨A1, c1, rfl, hown, hb1⟩
  have hU1 : Up w w1 := Up.then_ (by go_grown) hb1
  go_wp2
  go_ret
  exact ⟨rfl, hU1⟩
end Go.Proofs.YthncdjcmlpiebaaGreat
namespace Go.Proofs.YthncdjcmlpiebaaGreat
open Go.RowKit
set_option maxRecDepth 100000 in
theorem min_one_some {os : List (List Nat)} (h : 0 < os.length) : min os.length 1 = 1 ∧ ∃ q, os.head? = some q := by
  rcases os with _ | ⟨q, t⟩
  · simp at h
  · exact ⟨by simp, q, rfl⟩
set_option maxRecDepth 100000 in
set_option maxHeartbeats 2000000 in
theorem specCliqueOrderOf_any (N : Int) (A : Option Addr) (n c : Nat) (X : List Int) (w : World) (hX : RI w A n X) (hn : n ≤ 9223372036854775807) :
    Calls Tryz.prog 31 #[.agg #[.int .i64 N, .slice A n c]] w (GivesIB (optL (ordOf N X)) (ordOf N X).isSome w) := by
  obtain ⟨b, hb⟩ : ∃ b, b = (elimOf N X).isSome := ⟨_, rfl⟩
  have HC := Lib.hid hb.symm
  clear hb
  have hG := Blk.new w 26 #[.int .i64 N, .slice A n c]
  cases b
  · have HO := Lib.hid (show ordOf N X = none by rw [ordOf, cliqOrds_no HC.out]; rfl)
    go_enter Tryz.func31, Tryz.ntmps31
    go_wp2_with fail
    refine (specIsChordal_is (hX.up (by go_grown)) hn HC.out).mono ?_
    rintro e w1 ⟨rfl, hb1⟩
    have hU1 : Up w w1 := Up.then_ (by go_grown) hb1
    have hown0 := OwnI.made (base := w1.heap.size) w1 (Nat.le_refl _)
    have hww := hU1.alloc hU1.size (.cells #[] 3)
    go_wp2
    go_ret2
    rw [HO.out]
    exact givesIB_none hown0 hU1.size hww
  · have hok := cliques_ok HC.out
    obtain ⟨L, hL⟩ : ∃ L, L = maxCliquesOf N X := ⟨_, rfl⟩
    rw [← hL] at hok
    obtain ⟨os, hos⟩ : ∃ os, os = ords L L.length [] := ⟨_, rfl⟩
    have HO := Lib.hid (show ordOf N X = os.head? by rw [ordOf, cliqOrds_yes HC.out, ← hL, hos])
    have HOS := Lib.hid hos
    have HL := Lib.hid hL
    clear hL hos
    go_enter Tryz.func31, Tryz.ntmps31
    go_wp2_with fail
    refine (specIsChordal_is (hX.up (by go_grown)) hn HC.out).mono ?_
    rintro e w1 ⟨rfl, hb1⟩
    have hU1 : Up w w1 := Up.then_ (by go_grown) hb1
    replace hX := hX.up hU1
    replace hG := hG.up hb1
    have hyG := hG.two
    have hlG := hG.lt
    go_wp2_with fail
    refine (specMaximalCliques_any N A n c X _ (hX.up (by go_grown)) hn).mono ?_
    intro e w2 hg2
    obtain ⟨AC, cC, rfl, hownC, hb2⟩ := hg2.out
    clear hg2 hyG hlG
    rw [← HL.out] at hownC ⊢
    have hU2 : Up w1 w2 := Up.then_ (by go_grown) hb2
    have hw2 := Up.then_ hU1 hU2
    have hown0 := OwnI.made (base := w2.heap.size) w2 (Nat.le_refl _)
    have hcall := l10Search_any L.length cC AC L rfl hok.1 hok.2.2 w2.heap.size L.length [] ⟨w2.heap.size, 0, none⟩ 0 1 _ (by simp) (by simp) (by omega) (by omega) hown0 (by simp) (hownC.ri.alloc (.cells #[] 3))
    rw [← HOS.out] at hcall
    clear hown0
    go_wp2_with fail
    refine hcall.mono ?_
    clear hcall
    rintro e w3 ⟨A3, c3, rfl, hown3, hb3⟩
    have hU3 : Up w2 w3 := Up.then_ (by go_grown) hb3
    have hw3 := Up.then_ hw2 hU3
    have hsz2 := hw2.size
    by_cases h0 : os.length = 0
    · have he : os = [] := List.eq_nil_of_length_eq_zero h0
      subst he
      clear h0 HOS
      go_wp2
      go_ret2
      rw [HO.out]
      exact givesIB_none hown3 hsz2 hw3
    · obtain ⟨h1, q, hq⟩ := min_one_some (os := os) (by omega)
      rw [hq] at hown3 HO ⊢
      rw [h1]
      clear h0 h1 HOS hq
      go_wp2
      go_ret2
      rw [HO.out]
      exact givesIB_some hown3 hsz2 hw3
set_option maxRecDepth 100000 in
set_option maxHeartbeats 2000000 in
theorem specCountCliqueOrders_any (N : Int) (A : Option Addr) (n c : Nat) (X : List Int) (w : World) (hX : RI w A n X) (hn : n ≤ 9223372036854775807) :
    Calls Tryz.prog 37 #[.agg #[.int .i64 N, .slice A n c]] w fun e w' => e = .returned (.int .i64 (min (cliqOrds N X).length 1000 : Nat)) ∧ Below w.heap.size w w' := by
  obtain ⟨b, hb⟩ : ∃ b, b = (elimOf N X).isSome := ⟨_, rfl⟩
  have HC := Lib.hid hb.symm
  clear hb
  have hG := Blk.new w 26 #[.int .i64 N, .slice A n c]
  cases b
  · have HO := Lib.hid (show (min (cliqOrds N X).length 1000 : Nat) = 0 by rw [cliqOrds_no HC.out]; rfl)
    go_enter Tryz.func37, Tryz.ntmps37
    go_wp2_with fail
    refine (specIsChordal_is (hX.up (by go_grown)) hn HC.out).mono ?_
    rintro e w1 ⟨rfl, hb1⟩
    have hU1 : Up w w1 := Up.then_ (by go_grown) hb1
    go_wp2
    go_ret
    rw [HO.out]
    exact ⟨rfl, hU1⟩
  · have hok := cliques_ok HC.out
    obtain ⟨L, hL⟩ : ∃ L, L = maxCliquesOf N X := ⟨_, rfl⟩
    rw [← hL] at hok
    obtain ⟨os, hos⟩ : ∃ os, os = ords L L.length [] := ⟨_, rfl⟩
    have HO := Lib.hid (show cliqOrds N X = os by rw [cliqOrds_yes HC.out, ← hL, hos])
    have HOS := Lib.hid hos
    have HL := Lib.hid hL
    rw [HO.out]
    clear hL hos
    go_enter Tryz.func37, Tryz.ntmps37
    go_wp2_with fail
    refine (specIsChordal_is (hX.up (by go_grown)) hn HC.out).mono ?_
    rintro e w1 ⟨rfl, hb1⟩
    have hU1 : Up w w1 := Up.then_ (by go_grown) hb1
    replace hX := hX.up hU1
    replace hG := hG.up hb1
    have hyG := hG.two
    have hlG := hG.lt
    go_wp2_with fail
    refine (specMaximalCliques_any N A n c X _ (hX.up (by go_grown)) hn).mono ?_
    intro e w2 hg2
    obtain ⟨AC, cC, rfl, hownC, hb2⟩ := hg2.out
    clear hg2 hyG hlG
    rw [← HL.out] at hownC ⊢
    have hU2 : Up w1 w2 := Up.then_ (by go_grown) hb2
    have hw2 := Up.then_ hU1 hU2
    have hown0 := OwnI.made (base := w2.heap.size) w2 (Nat.le_refl _)
    have hcall := l10Search_any L.length cC AC L rfl hok.1 hok.2.2 w2.heap.size L.length [] ⟨w2.heap.size, 0, none⟩ 0 1000 _ (by simp) (by simp) (by omega) (by omega) hown0 (by simp) (hownC.ri.alloc (.cells #[] 3))
    rw [← HOS.out] at hcall
    clear hown0
    go_wp2_with fail
    refine hcall.mono ?_
    clear hcall
    rintro e w3 ⟨A3, c3, rfl, hown3, hb3⟩
    have hU3 : Up w2 w3 := Up.then_ (by go_grown) hb3
    have hw3 := Up.then_ hw2 hU3
    obtain ⟨r, hr⟩ : ∃ r, r = min os.length 1000 := ⟨_, rfl⟩
    rw [← hr]
    have HRR := Lib.hid hr
    clear hr hown3
    go_wp2
    go_ret
    rw [← HRR.out]
    exact ⟨rfl, hw3⟩
end Go.Proofs.YthncdjcmlpiebaaGreat
namespace Go.Proofs.YthncdjcmlpiebaaGreat
open Go.RowKit
set_option maxRecDepth 100000 in
theorem givesTB_none {w w' : World} (hb : Below w.heap.size w w') : GivesTB [] [] false w (.returned (.tuple #[.agg #[.slice none 0 0, .slice none 0 0], .bool false])) w' :=
  ⟨none, 0, none, 0, rfl, OwnI.nil_ _ _, OwnI.nil_ _ _, (fun j h => by cases h), hb⟩
set_option maxRecDepth 100000 in
theorem slContainsFunc_is10 {f : FuncId} {caps : Array Value} (p : Int → Bool) {b : Bool} {A : Option Addr} {n c : Nat} {xs : List Int} {w : World} (hz : xs.any p = b) (hA : RI w A n xs) (hn : n ≤ 9223372036854775807) (he : EntersF f)
    (hp : ∀ j, j < n → ∀ w', Up w w' → Calls Tryz.prog f (#[.int .i64 (xs.getD j 0)] ++ caps) w' fun e w'' => e = .returned (.bool (p (xs.getD j 0))) ∧ Below w'.heap.size w' w'') :
    Calls Tryz.prog 108 #[.slice A n c, .func (.func f) #[] caps] w fun e w' => e = .returned (.bool b) ∧ Below w.heap.size w w' := by
  subst hz; exact slContainsFunc_any f caps p A n c xs w hA hn he hp
set_option maxRecDepth 100000 in
theorem mo1_any (x : Int) (n bn : Nat) (w : World) (hn : n ≤ 7) (hN : Blk w bn 3 #[.int .i64 (n : Int)]) :
    Calls Tryz.prog 109 #[.int .i64 x, .pointer (some ⟨bn, 0, none⟩)] w fun e w' => e = .returned (.bool (noSet n x)) ∧ Below w.heap.size w w' := by
  have hy := hN.one
  have hsh := shl_p2 (k := n) (by omega)
  have hpp := p2_le hn
  have hp1 := p2_pos n
  have hsub : wrap64 ((p2 n : Int) - 1) = ((p2 n : Int) - 1) := IntWalk.wrap64_in _ ⟨by omega, by omega⟩
  have HS := Lib.hid (show (!decide (0 ≤ x) || !decide (x ≤ ((p2 n : Int) - 1))) = noSet n x by
    rw [noSet, Bool.not_and]
    have : decide (x ≤ ((p2 n : Int) - 1)) = decide (x < ((2 ^ n : Nat) : Int)) := decide_eq_decide.2 (by show _ ↔ x < (p2 n : Int); omega)
    rw [this])
  go_enter Tryz.func109, Tryz.ntmps109
  go_wp2_with (go_at_call 107; refine (within_any _ _ _ _).mono ?_; rintro e w1 ⟨rfl, rfl⟩)
  go_ret
  exact ⟨ret_bool HS.out, Below.refl _ _⟩
set_option maxRecDepth 100000 in
theorem mo2_any (s v bv : Nat) (w : World) (hs : s < 128) (hv : v ≤ 62) (hV : Blk w bv 3 #[.int .i64 (v : Int)]) :
    Calls Tryz.prog 111 #[.int .i64 s, .pointer (some ⟨bv, 0, none⟩)] w fun e w' => e = .returned (.bool (s.testBit v)) ∧ Below w.heap.size w w' := by
  have hy := hV.one
  go_enter Tryz.func111, Tryz.ntmps111
  go_wp2_with (go_at_call 112; refine (has_nat s v _ (by omega) hv).mono ?_; rintro e w1 ⟨rfl, rfl⟩)
  go_ret
  exact ⟨rfl, Below.refl _ _⟩
set_option maxRecDepth 100000 in
theorem idxF_fst {o : List Nat} {v m : Nat} (hm : o.length = m) : idxF (fun z => z.toNat.testBit v) (ints o) = fstB o v m := by
  subst hm
  rcases fstB_cases o v o.length with ⟨h1, _, h3⟩ | ⟨i, h1, h2, h3, h4, _⟩
  · rw [h1]
    exact idxF_none fun j hj => by rw [ints_nb, Int.toNat_natCast]; exact h3 j (by rwa [ints_len] at hj)
  · rw [h2]
    exact idxF_at (by rwa [ints_len]) (by rw [ints_nb, Int.toNat_natCast]; exact h3) fun j hj => by rw [ints_nb, Int.toNat_natCast]; exact h4 j hj
set_option maxRecDepth 100000 in
theorem slIndexFunc_is10 {f : FuncId} {caps : Array Value} (p : Int → Bool) {z : Int} {A : Option Addr} {n c : Nat} {xs : List Int} {w : World} (hz : idxF p xs = z) (hA : RI w A n xs) (hn : n ≤ 9223372036854775807) (he : EntersF f)
    (hp : ∀ j, j < n → ∀ w', Up w w' → Calls Tryz.prog f (#[.int .i64 (xs.getD j 0)] ++ caps) w' fun e w'' => e = .returned (.bool (p (xs.getD j 0))) ∧ Below w'.heap.size w' w'') :
    Calls Tryz.prog 110 #[.slice A n c, .func (.func f) #[] caps] w fun e w' => e = .returned (.int .i64 z) ∧ Below w.heap.size w w' := by
  subst hz; exact slIndexFunc_any f caps p A n c xs w hA hn he hp
set_option maxRecDepth 100000 in
set_option maxHeartbeats 4000000 in
theorem implModelOfOrder_any (A : Option Addr) (m c : Nat) (l : List Int) (N : Int) (w : World) (hL : RI w A m l) (hm : m ≤ 1048576) :
    Calls Tryz.prog 51 #[.slice A m c, .int .i64 N] w (GivesTB (moL l N) (moR l N) (hasMo l N) w) := by
  have HL := Lib.hid hL.1
  have hbr := (Blk.new_at (w := w.alloc (.cells #[.int .i64 N] 3)) (t := 31) (cs := #[.slice none 0 0, .slice none 0 0]) (g := w.heap.size + 1) (by simp))
  have hbn := (Blk.new w 3 #[.int .i64 N]).alloc (.cells #[.slice none 0 0, .slice none 0 0] 31)
  have hU0 : Up w ((w.alloc (.cells #[.int .i64 N] 3)).alloc (.cells #[.slice none 0 0, .slice none 0 0] 31)) := by go_grown
  by_cases hN : 1 ≤ N ∧ N ≤ 7
  rotate_left
  · have HB := Lib.hid (hasMo_arg (moArg_num (l := l) hN))
    have HR := Lib.hid (mo_no HB.out)
    rw [HR.out.1, HR.out.2, HB.out]
    go_enter Tryz.func51, Tryz.ntmps51
    have f0 := hbr.frozen 0
    have f1 := hbr.frozen 1
    have hyb := hbr.two
    have hyn := hbn.one
    go_wp2_with (go_at_call 107; refine ((within_no _ _ _ _ hN).mono fun _ _ h => And.intro h.1 h.2.symm).mono ?_; rintro e w' ⟨rfl, rfl⟩)
    refine bodyPost_ret (v := .tuple #[.agg #[.slice none 0 0, .slice none 0 0], .bool false]) ?_ rfl ?_
    · simp [results, Tryz.results51, go_sem]
    exact givesTB_none hU0
  obtain ⟨n, rfl⟩ : ∃ n : Nat, N = n := ⟨N.toNat, by omega⟩
  by_cases hm20 : 1 ≤ (l.length : Int) ∧ (l.length : Int) ≤ 20
  rotate_left
  · have HB := Lib.hid (hasMo_arg (moArg_len (n := (n : Int)) hm20))
    have HR := Lib.hid (mo_no HB.out)
    rw [HR.out.1, HR.out.2, HB.out]
    rw [HL.out] at hm20
    go_enter Tryz.func51, Tryz.ntmps51
    have f0 := hbr.frozen 0
    have f1 := hbr.frozen 1
    have hyb := hbr.two
    have hyn := hbn.one
    go_wp2_with (first | (go_at_call_of 107 (Value.int .i64 (n : Int)); refine ((within_yes _ _ _ _ hN).mono fun _ _ h => And.intro h.1 h.2.symm).mono ?_; rintro e w' ⟨rfl, rfl⟩) | (go_at_call_of 107 (Value.int .i64 (m : Int)); refine ((within_no _ _ _ _ hm20).mono fun _ _ h => And.intro h.1 h.2.symm).mono ?_; rintro e w' ⟨rfl, rfl⟩))
    refine bodyPost_ret (v := .tuple #[.agg #[.slice none 0 0, .slice none 0 0], .bool false]) ?_ rfl ?_
    · simp [results, Tryz.results51, go_sem]
    exact givesTB_none hU0
  have h1 : 1 ≤ n := by omega
  have h7 : n ≤ 7 := by omega
  have hm1 : 1 ≤ m := by rw [HL.out] at hm20; omega
  have hml : m ≤ 20 := by rw [HL.out] at hm20; omega
  have hent1 := entersF (f := 109) Tryz.func109 rfl rfl
  have hany := moArg_any (l := l) h1 h7 (by omega) (by omega)
  rw [HL.out] at hm20
  have P1 : ∀ (w2 : World), Up ((w.alloc (.cells #[.int .i64 (n : Int)] 3)).alloc (.cells #[.slice none 0 0, .slice none 0 0] 31)) w2 → ∀ j, j < m → ∀ w', Up w2 w' → Calls Tryz.prog 109 (#[.int .i64 (l.getD j 0)] ++ #[.pointer (some ⟨w.heap.size, 0, none⟩)]) w' fun e w'' => e = .returned (.bool (noSet n (l.getD j 0))) ∧ Below w'.heap.size w' w'' :=
    fun w2 hU2 j _ w' hU' => mo1_any (l.getD j 0) n w.heap.size w' h7 (hbn.up (Up.then_ hU2 hU'))
  have HP1 := Lib.hid P1
  clear P1
  rcases Bool.eq_false_or_eq_true (l.any (noSet n)) with hno | hno
  · have HB := Lib.hid (hasMo_arg (l := l) (n := (n : Int)) (by rw [hany, hno]; rfl))
    have HR := Lib.hid (mo_no HB.out)
    have HNo := Lib.hid hno
    rw [HR.out.1, HR.out.2, HB.out]
    clear hno hany
    go_enter Tryz.func51, Tryz.ntmps51
    have hyb := hbr.two
    have hyn := hbn.one
    go_wp2_with (first | (go_at_call_of 107 (Value.int .i64 (n : Int)); refine ((within_yes _ _ _ _ hN).mono fun _ _ h => And.intro h.1 h.2.symm).mono ?_; rintro e w' ⟨rfl, rfl⟩) | (go_at_call_of 107 (Value.int .i64 (m : Int)); refine ((within_yes _ _ _ _ hm20).mono fun _ _ h => And.intro h.1 h.2.symm).mono ?_; rintro e w' ⟨rfl, rfl⟩) | (go_at_call 108; refine (slContainsFunc_is10 (noSet n) HNo.out (hL.up hU0) (by omega) hent1 (HP1.out _ (Up.refl _))).mono ?_; rintro e w3 ⟨rfl, hb3⟩; have hbr3 := hbr.up hb3; have hy3 := hbr3.two; have f30 := hbr3.frozen 0; have f31 := hbr3.frozen 1; have hU3 := Up.then_ hU0 hb3))
    have hfin := ((hbr3.set_ 0 (.slice none 0 0)).set_ 1 (.slice none 0 0)).two
    have hbf := (hU3.setCell (p := ⟨w.heap.size + 1, 0, none⟩) (by simp) (.slice none 0 0)).setCell (p := ⟨w.heap.size + 1, 1, none⟩) (by simp) (.slice none 0 0)
    generalize (w3.setCell ⟨w.heap.size + 1, 0, none⟩ (.slice none 0 0)).setCell ⟨w.heap.size + 1, 1, none⟩ (.slice none 0 0) = Wf at hfin hbf ⊢
    refine bodyPost_ret (v := .tuple #[.agg #[.slice none 0 0, .slice none 0 0], .bool false]) ?_ rfl ?_
    · simp [results, Tryz.results51, go_sem, hfin]
    exact givesTB_none hbf
  · have harg : moArg l n = true := by rw [hany, hno]; rfl
    have HNo := Lib.hid hno
    obtain ⟨n', o, e1, rfl, _, _, _, _, hlt⟩ := moArg_spec harg
    obtain rfl : n = n' := by omega
    have hol : o.length = m := by rw [← HL.out, ints_len]
    have Hout := Lib.hid fun v (hv : v < n) (h : fstB o v o.length < 0) => hasMo_out harg hv h
    have Hyes := Lib.hid fun h => mo_ok (o := o) harg h
    have Hcs := Lib.hid fun v => fstB_cases o v m
    have Hlt := Lib.hid hlt
    have Hol := Lib.hid hol
    have hent2 := entersF (f := 111) Tryz.func111 rfl rfl
    clear hno hany harg e1 hlt hol
    go_enter Tryz.func51, Tryz.ntmps51
    have hyb := hbr.two
    have hyn := hbn.one
    go_wp2_with (first | (go_at_call_of 107 (Value.int .i64 (n : Int)); refine ((within_yes _ _ _ _ hN).mono fun _ _ h => And.intro h.1 h.2.symm).mono ?_; rintro e w' ⟨rfl, rfl⟩) | (go_at_call_of 107 (Value.int .i64 (m : Int)); refine ((within_yes _ _ _ _ hm20).mono fun _ _ h => And.intro h.1 h.2.symm).mono ?_; rintro e w' ⟨rfl, rfl⟩) | (go_at_call 108; refine (slContainsFunc_is10 (noSet n) HNo.out (hL.up hU0) (by omega) hent1 (HP1.out _ (Up.refl _))).mono ?_; rintro e w3 ⟨rfl, hb3⟩; have hbr3 := hbr.up hb3; have hy3 := hbr3.two; have f30 := hbr3.frozen 0; have f31 := hbr3.frozen 1; have hU3 := Up.then_ hU0 hb3; have hyn3 := fun o => ((hbn.up hb3).alloc o).one))
    have hbn3 := hbn.up hb3
    obtain ⟨W1, hW1⟩ : ∃ W1, W1 = w3.alloc (.cells #[.slice none 0 0, .slice none 0 0] 31) := ⟨_, rfl⟩
    have hbm : Blk W1 w3.heap.size 31 #[.slice none 0 0, .slice none 0 0] := by rw [hW1]; exact Blk.new _ _ _
    have hU31 : Up w3 W1 := by rw [hW1]; go_grown
    rw [← hW1]
    clear hyb hyn hbr hbn hyn3 hW1 hy3 f30 f31 HP1
    have hbn1 := hbn3.up hU31
    have hbr1 := hbr3.up hU31
    have hUW := Up.then_ hU3 hU31
    have hsz3 : w.heap.size + 1 < w3.heap.size := hbr3.lt
    obtain ⟨bm, hbmE⟩ : ∃ bm, bm = w3.heap.size := ⟨_, rfl⟩
    rw [← hbmE] at hbm hsz3 ⊢
    have hlm := hbm.lt
    clear hbmE hU31 hU3 hb3 hbn3 hbr3
    go_loopw [28] (fun s wr => ∃ (k : Nat) (A1 B1 : Option Addr) (c1 d1 : Nat), k ≤ n ∧ s = .int .i64 k ∧ OwnI wr bm A1 k c1 (moF o k) ∧ OwnI wr bm B1 k d1 (moG o k) ∧ (∀ j, (Value.slice A1 k c1).ownBlock = some j → (Value.slice B1 k d1).ownBlock ≠ some j) ∧ Blk wr bm 31 #[.slice A1 k c1, .slice B1 k d1] ∧ Below bm W1 wr ∧ Hid (∀ v, v < k → 0 ≤ fstB o v o.length)) (fun s _ => n - (intOf s).toNat)
    case atStart => exact ⟨0, none, none, 0, 0, Nat.zero_le _, rfl, OwnI.nil_ _ _, OwnI.nil_ _ _, (fun j h => by cases h), hbm, Below.refl _ _, fun v hv => absurd hv (by omega)⟩
    case round =>
      clear hbm
      obtain ⟨k, A1, B1, c1, d1, hk, rfl, hownA, hownB, hne, hbm, hb, hpos⟩ := hrel
      obtain ⟨wo, rfl⟩ : ∃ wo : World, wo = wr := ⟨_, rfl⟩
      have hUo : Up w wo := hUW.trans (hb.mono (by omega))
      by_cases hkn : k < n
      · have hbv := Blk.new wo 3 #[.int .i64 (k : Int)]
        have hI := Lib.hid (idxF_fst (v := k) Hol.out)
        have hLo := hL.up hUo
        have P2 : ∀ j, j < m → ∀ w', Up (wo.alloc (.cells #[.int .i64 (k : Int)] 3)) w' → Calls Tryz.prog 111 (#[.int .i64 ((ints o).getD j 0)] ++ #[.pointer (some ⟨wo.heap.size, 0, none⟩)]) w' fun e w'' => e = .returned (.bool (((ints o).getD j 0).toNat.testBit k)) ∧ Below w'.heap.size w' w'' := by
          intro j hj w' hU'
          rw [ints_nb, Int.toNat_natCast]
          exact mo2_any (nb o j) k _ w' (by have := Hlt.out j; have := pow_le7 h7; omega) (by omega) (hbv.up hU')
        have HP2 := Lib.hid P2
        clear P2
        rcases Hcs.out k with ⟨hf, _, _⟩ | ⟨i, him, hf, hbi, _, hla⟩
        · have HO := Lib.hid (Hout.out k hkn (by rw [Hol.out, hf]; omega))
          have HG := Lib.hid (mo_no HO.out)
          rw [HG.out.1, HG.out.2, HO.out]
          rw [hf] at hI
          clear hf
          go_wp2_with (go_at_call 110; refine (slIndexFunc_is10 (fun z => z.toNat.testBit k) hI.out (hLo.up (by go_grown)) (by omega) hent2 HP2.out).mono ?_; rintro e w4 ⟨rfl, hb4⟩; have hU4 : Up wo w4 := Up.then_ (by go_grown) hb4; have hbr4 := (hbr1.below hb (by omega)).up hU4; have hy4 := hbr4.two; have f40 := hbr4.frozen 0; have f41 := hbr4.frozen 1)
          have hU5 : Up w w4 := Up.then_ hUo hU4
          have hfin := ((hbr4.set_ 0 (.slice none 0 0)).set_ 1 (.slice none 0 0)).two
          have hbf := (hU5.setCell (p := ⟨w.heap.size + 1, 0, none⟩) (by simp) (.slice none 0 0)).setCell (p := ⟨w.heap.size + 1, 1, none⟩) (by simp) (.slice none 0 0)
          generalize (w4.setCell ⟨w.heap.size + 1, 0, none⟩ (.slice none 0 0)).setCell ⟨w.heap.size + 1, 1, none⟩ (.slice none 0 0) = Wf at hfin hbf ⊢
          refine bodyPost_ret (v := .tuple #[.agg #[.slice none 0 0, .slice none 0 0], .bool false]) ?_ rfl ?_
          · simp [results, Tryz.results51, go_sem, hfin]
          exact givesTB_none hbf
        · go_wp2_with (go_at_call 110; refine (slIndexFunc_is10 (fun z => z.toNat.testBit k) (hI.out.trans hf) (hLo.up (by go_grown)) (by omega) hent2 HP2.out).mono ?_; rintro e w4 ⟨rfl, hb4⟩; have hU4 : Up wo w4 := Up.then_ (by go_grown) hb4)
          have hbv4 := hbv.up hb4
          have hla2 := Lib.hid hla
          clear hla hbv hI
          go_loopw [9, 10] (fun x s wr => ∃ j : Nat, i ≤ j ∧ j ≤ m ∧ s = .int .i64 j ∧ x = .int .i64 (lstB o k (max j (i + 1))) ∧ Up w4 wr) (fun _ s _ => m - (intOf s).toNat)
          case atStart => exact ⟨i, Nat.le_refl _, by omega, rfl, by rw [show max i (i + 1) = i + 1 by omega, hla2.out], Up.refl _⟩
          case round =>
            obtain ⟨j, hij, hjm, rfl, rfl, hbj⟩ := hrel
            obtain ⟨wi, rfl⟩ : ∃ wi : World, wi = wr := ⟨_, rfl⟩
            by_cases hjt : j < m
            · obtain ⟨a, rfl, hcl⟩ := ((hLo.up hU4).up hbj).nb_at hjt
              have hyv := (hbv4.up hbj).one
              have hS := Lib.hid (show lstB o k (max (j + 1) (i + 1)) = if (nb o j).testBit k then (j : Int) else lstB o k (max j (i + 1)) by
                by_cases e : i = j
                · subst e
                  rw [show max (i + 1) (i + 1) = i + 1 by omega, show max i (i + 1) = i + 1 by omega, hla2.out, if_pos hbi]
                · rw [show max (j + 1) (i + 1) = j + 1 by omega, show max j (i + 1) = j by omega, lstB])
              have hxl : nb o j < 128 := by have := Hlt.out j; have := pow_le7 h7; omega
              obtain ⟨x, hx⟩ : ∃ x, x = nb o j := ⟨_, rfl⟩
              rw [← hx] at hcl hS hxl
              clear hx
              obtain ⟨y, hy⟩ : ∃ y, y = lstB o k (max j (i + 1)) := ⟨_, rfl⟩
              rw [← hy] at hS ⊢
              clear hy
              rcases Bool.eq_false_or_eq_true (x.testBit k) with e1 | e1
              · have H1 := Lib.hid e1
                rw [e1, if_pos rfl] at hS
                clear e1
                go_wp2_with fail
                go_quiet ((go_at_call 112; exact Calls.quiet_of_same (has_is (by omega) (by omega) H1.out)))
                go_wp2
                go_roundw
                case rel => exact ⟨j + 1, by omega, by omega, by go_num, by rw [hS.out], below_drewN hbj _⟩
                case measure => simp [intOf]; omega
              · have H1 := Lib.hid e1
                rw [e1, if_neg Bool.false_ne_true] at hS
                clear e1
                go_wp2_with fail
                go_quiet ((go_at_call 112; exact Calls.quiet_of_same (has_is (by omega) (by omega) H1.out)))
                go_wp2
                go_roundw
                case rel => exact ⟨j + 1, by omega, by omega, by go_num, by rw [hS.out], below_drewN hbj _⟩
                case measure => simp [intOf]; omega
            · obtain rfl : j = m := by omega
              rw [show max j (i + 1) = j by omega]
              have hbo := Up.then_ hU4 hbj
              have hbm2 := hbm.up hbo
              have hA2 := hownA.up hbo
              have hB2 := hownB.up hbo
              have hym := hbm2.two
              have hlm2 := hbm2.lt
              have T0 := Two.start (W := wi.drew) (base := bm) hA2.drew hB2.drew hne
              have hx0 := hbm2.drew.two
              have hx1 := fun o => (hbm2.alloc o).two
              have hx2 := fun o o' => ((hbm2.alloc o).alloc o').two
              have hna : some bm ≠ (Value.slice A1 k c1).ownBlock := Ne.symm (own_blk_ne (e := 3) hA2 hbm2 (by decide))
              have hnb : some bm ≠ (Value.slice B1 k d1).ownBlock := Ne.symm (own_blk_ne (e := 3) hB2 hbm2 (by decide))
              have hga : ∀ g, wi.heap.size ≤ g → some g ≠ (Value.slice A1 k c1).ownBlock := fun g hg e => by have := (hA2.block g e.symm).2; omega
              have hgb : ∀ g, wi.heap.size ≤ g → some g ≠ (Value.slice B1 k d1).ownBlock := fun g hg e => by have := (hB2.block g e.symm).2; omega
              have hsz2 := hbm2.lt
              clear hbm hA2 hB2 hownA hownB hne
              obtain ⟨y, hy⟩ : ∃ y, y = lstB o k j := ⟨_, rfl⟩
              rw [← hy]
              have eF := Lib.hid (show List.map (Value.int .i64) (moF o k) ++ [.int .i64 (i : Int)] = List.map (Value.int .i64) (moF o (k + 1)) by rw [moF_succ, List.map_append, Hol.out, hf]; rfl)
              have eG := Lib.hid (show List.map (Value.int .i64) (moG o k) ++ [.int .i64 y] = List.map (Value.int .i64) (moG o (k + 1)) by rw [moG_succ, List.map_append, Hol.out, hy]; rfl)
              have hbwi := Lib.hid (hb.trans (hbo.mono (Nat.le_trans (Nat.le_of_lt hlm) hb.size))).drew
              have hpos2 := Lib.hid (show ∀ v, v < k + 1 → 0 ≤ fstB o v o.length from fun v hv => by
                rcases Nat.lt_succ_iff_lt_or_eq.1 hv with h' | rfl
                · exact hpos.out v h'
                · rw [Hol.out, hf]; omega)
              have hra := Lib.hid (show ∀ k', (Value.slice A1 k c1).ownBlock = some k' → bm ≤ k' from fun k' e => (T0.fa k' e).elim (fun e => (World.ownsRow.lt T0.a k' e).1) fun h => Nat.le_trans (Nat.le_of_lt hsz2) h)
              have hrb := Lib.hid (show ∀ k', (Value.slice B1 k d1).ownBlock = some k' → bm ≤ k' from fun k' e => (T0.fb k' e).elim (fun e => (World.ownsRow.lt T0.b k' e).1) fun h => Nat.le_trans (Nat.le_of_lt hsz2) h)
              clear hy hL hLo hUo hUW hb hbo hbj hbv4 hbr1 hbn1 hU4 hb4 hbi hf hlm hpos hlm2 hU0 hla2 Hcs Hlt Hout Hyes HP2 HNo hent1 hent2 HL Hol h1 hm
              go_wp2_with fail
              go_region_law (first
                | (refine stepA_int rfl (.tmp 53) (.tmp 55) rfl (i : Int) rfl (by first | exact T8 | exact T8.alloc _) _ rfl (by first | exact cell_lit rfl | exact cell_lit (by simp) | exact cell_lit4 hg8 rfl (hgb _ (by simp)) | exact cell_lit4 hg8 (by simp) (hgb _ (by simp)) | exact cell_lit5 hg8 rfl (hgb _ (by simp)) | exact cell_lit5 hg8 (by simp) (hgb _ (by simp))) (by omega) (by simp; omega) ?_; intro A7 c7 w7 T9 hg9; have hx9 := (T9.blk hbm2.drew hna hnb).two; have f90 := (T9.blk hbm2.drew hna hnb).frozen 0; have f91 := (T9.blk hbm2.drew hna hnb).frozen 1)
                | (refine stepB_int rfl (.tmp 58) (.tmp 60) rfl y rfl (by first | exact T7 | exact T7.alloc _) _ rfl (by first | exact cell_lit rfl | exact cell_lit (by simp) | exact cell_lit4 hg7 rfl (hga _ (by simp)) | exact cell_lit4 hg7 (by simp) (hga _ (by simp)) | exact cell_lit5 hg7 rfl (hga _ (by simp)) | exact cell_lit5 hg7 (by simp) (hga _ (by simp))) (by omega) (by simp; omega) ?_; intro B8 d8 w7 T9 hg9; have hx9 := (T9.blk hbm2.drew hna hnb).two; have f90 := (T9.blk hbm2.drew hna hnb).frozen 0; have f91 := (T9.blk hbm2.drew hna hnb).frozen 1)
                | (refine stepA_int rfl (.tmp 53) (.tmp 55) rfl (i : Int) rfl (by first | exact T0.alloc _ | exact (T0.alloc _).alloc _) _ rfl (by first | exact cell_lit rfl | exact cell_lit (by simp) | exact cell_lit1 rfl | exact cell_lit1 (by simp)) (by omega) (by simp; omega) ?_; intro A7 c7 w7 T7 hg7; have hx7 := (T7.blk hbm2.drew hna hnb).two; have hx77 := fun o => ((T7.blk hbm2.drew hna hnb).alloc o).two)
                | (refine stepB_int rfl (.tmp 58) (.tmp 60) rfl y rfl (by first | exact T0.alloc _ | exact (T0.alloc _).alloc _) _ rfl (by first | exact cell_lit rfl | exact cell_lit (by simp) | exact cell_lit1 rfl | exact cell_lit1 (by simp)) (by omega) (by simp; omega) ?_; intro B8 d8 w7 T8 hg8; have hx8 := (T8.blk hbm2.drew hna hnb).two; have hx88 := fun o => ((T8.blk hbm2.drew hna hnb).alloc o).two))
              all_goals
                have hA9 : OwnI w7 bm A7 (k + 1) c7 (moF o (k + 1)) := by unfold OwnI; rw [← eF.out]; exact T9.a
                have hB9 : OwnI w7 bm B8 (k + 1) d8 (moG o (k + 1)) := by unfold OwnI; rw [← eG.out]; exact T9.b
                have hn9 := T9.ne
                have hbm9 := T9.blk hbm2.drew hna hnb
                have hw9 := T9.below hbwi.out hra.out hrb.out (Nat.le_of_lt hsz2)
                clear T9
                go_wp2_with fail
                go_roundw
                case rel => exact ⟨k + 1, A7, B8, c7, d8, by omega, by go_num, (hA9.other_store (i := 0) hbm9 (by decide) _).other_store (i := 1) (hbm9.set_ 0 _) (by decide) _, (hB9.other_store (i := 0) hbm9 (by decide) _).other_store (i := 1) (hbm9.set_ 0 _) (by decide) _, hn9, (hbm9.set_ 0 _).set_ 1 _, (hw9.setCell (p := ⟨bm, 0, none⟩) (Nat.le_refl _) _).setCell (p := ⟨bm, 1, none⟩) (Nat.le_refl _) _, hpos2⟩
                case measure => simp [intOf]; omega
      · obtain rfl : k = n := by omega
        have HG := Lib.hid (Hyes.out (moAll_yes k hpos.out))
        have hbr2 := (hbr1.below hb (by omega))
        have f0 := hbr2.frozen 0
        have f1 := hbr2.frozen 1
        have hyr := hbr2.two
        have hym := hbm.two
        have hlr := hbr2.lt
        have hfin := ((hbr2.set_ 0 (.slice A1 k c1)).set_ 1 (.slice B1 k d1)).two
        have hoA := (hownA.other_store (i := 0) hbr2 (by decide) (.slice A1 k c1)).other_store (i := 1) (hbr2.set_ 0 (.slice A1 k c1)) (by decide) (.slice B1 k d1)
        have hoB := (hownB.other_store (i := 0) hbr2 (by decide) (.slice A1 k c1)).other_store (i := 1) (hbr2.set_ 0 (.slice A1 k c1)) (by decide) (.slice B1 k d1)
        have hbf := (hUo.setCell (p := ⟨w.heap.size + 1, 0, none⟩) (by simp) (.slice A1 k c1)).setCell (p := ⟨w.heap.size + 1, 1, none⟩) (by simp) (.slice B1 k d1)
        go_wp2
        generalize (wo.setCell ⟨w.heap.size + 1, 0, none⟩ (.slice A1 k c1)).setCell ⟨w.heap.size + 1, 1, none⟩ (.slice B1 k d1) = Wf at hfin hoA hoB hbf ⊢
        refine bodyPost_ret (v := .tuple #[.agg #[.slice A1 k c1, .slice B1 k d1], .bool true]) ?_ rfl ?_
        · simp [results, Tryz.results51, go_sem, hfin]
        rw [HG.out.1, HG.out.2.1, HG.out.2.2]
        have eA := moF_len o k
        have eB := moG_len o k
        exact ⟨A1, c1, B1, d1, by rw [eA, eB], (hoA.cast eA.symm rfl).more (by omega), (hoB.cast eB.symm rfl).more (by omega), (fun j h1 h2 => hne j (by rw [eA] at h1; exact h1) (by rw [eB] at h2; exact h2)), hbf⟩
end Go.Proofs.YthncdjcmlpiebaaGreat
