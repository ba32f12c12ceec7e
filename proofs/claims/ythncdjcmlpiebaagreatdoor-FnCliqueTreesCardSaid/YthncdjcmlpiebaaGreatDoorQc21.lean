/- Draws: a graph and a tree of its cliques. -/
import Derived.Test.YthncdjcmlpiebaaGreatDoorQc10
import Derived.Test.YthncdjcmlpiebaaGreatDoorQc19
import Derived.Test.YthncdjcmlpiebaaGreatDoorQc20
namespace Go.Proofs.YthncdjcmlpiebaaGreatDoor
open Go.RowKit
set_option maxRecDepth 100000 in
theorem ct_same (N : Int) (X : List Int) : (ctOf N X).2.1.length = (ctOf N X).1.length := by
  rcases Bool.eq_false_or_eq_true (elimOf N X).isSome with e | e
  · have hok := cliques_ok e
    have hs := ctB_spec (cliques_nodup e) (b := 2 ^ 7) (by decide) hok.1 ((maxCliquesOf N X).length - 1) (by have := hok.2.1; omega)
    rw [ctOf_yes e]
    show (ctB (maxCliquesOf N X) ((maxCliquesOf N X).length - 1)).2.length = (ints (ctB (maxCliquesOf N X) ((maxCliquesOf N X).length - 1)).1).length
    rw [ints_len, hs.2.1, hs.1]
  · rw [ctOf_no e]
/-- A graph and a tree in boxes while they are drawn. -/
structure TX (w : World) (g : Nat) (B : Option Addr) (n c : Nat) (bs : List Int) (gr gq gb gt : Nat) (N : Int) (A : Option Addr) (m d : Nat) (X : List Int) (K : Option Addr) (k kc : Nat) (L : List Int) (J : Option Addr) (j jc : Nat) (R : List Int) (wr : World) : Prop where
  cur : Cur wr g B n c bs
  res : Blk wr gr 29 #[.int .i64 0, .slice none 0 0]
  req : Blk wr gq 49 #[.slice none 0 0, .slice none 0 0]
  box : Blk wr gb 29 #[.int .i64 N, .slice A m d]
  tb : Blk wr gt 49 #[.slice K k kc, .slice J j jc]
  own : OwnI wr w.heap.size A m d X
  a : OwnI wr w.heap.size K k kc L
  b : OwnI wr w.heap.size J j jc R
  apart : ∀ i, (Value.slice K k kc).ownBlock = some i → (Value.slice J j jc).ownBlock ≠ some i
  ap1 : ∀ i, (Value.slice A m d).ownBlock = some i → (Value.slice K k kc).ownBlock ≠ some i
  ap2 : ∀ i, (Value.slice A m d).ownBlock = some i → (Value.slice J j jc).ownBlock ≠ some i
  gby : w.grownBy wr (some g)
  low : g < w.heap.size
  hgr : w.heap.size ≤ gr
  lt1 : gr < gq
  lt2 : gq < gb
  lt3 : gb < gt
section
variable {w wr w' : World} {g n c gr gq gb gt m d k kc j jc : Nat} {B A K J : Option Addr} {bs X L R : List Int} {N : Int}
set_option maxRecDepth 100000 in
theorem TX.up (I : TX w g B n c bs gr gq gb gt N A m d X K k kc L J j jc R wr) (hb : Up wr w') : TX w g B n c bs gr gq gb gt N A m d X K k kc L J j jc R w' :=
  ⟨I.cur.up hb, I.res.up hb, I.req.up hb, I.box.up hb, I.tb.up hb, I.own.up hb, I.a.up hb, I.b.up hb, I.apart, I.ap1, I.ap2, gb_up I.gby hb, I.low, I.hgr, I.lt1, I.lt2, I.lt3⟩
set_option maxRecDepth 100000 in
theorem TX.dr (I : TX w g B n c bs gr gq gb gt N A m d X K k kc L J j jc R wr) (hC : Cur w' g B n c bs) (hg : wr.grownBy w' (some g)) : TX w g B n c bs gr gq gb gt N A m d X K k kc L J j jc R w' := by
  have h1 := I.low
  have h2 := I.hgr
  have h3 := I.lt1
  have h4 := I.lt2
  have h5 := I.lt3
  exact ⟨hC, I.res.grown hg (fun e => by injection e with e; omega), I.req.grown hg (fun e => by injection e with e; omega), I.box.grown hg (fun e => by injection e with e; omega), I.tb.grown hg (fun e => by injection e with e; omega), I.own.far_gb hg h1, I.a.far_gb hg h1, I.b.far_gb hg h1, I.apart, I.ap1, I.ap2, gb_trans I.gby hg, h1, h2, h3, h4, h5⟩
end
set_option maxRecDepth 100000 in
/-- A bag's number is stored. -/
theorem TX.putA {w wr : World} {g n c gr gq gb gt m d k kc j jc gK : Nat} {B A J : Option Addr} {bs X L R : List Int} {N : Int} (I : TX w g B n c bs gr gq gb gt N A m d X (some ⟨gK, 0, none⟩) k kc L J j jc R wr) (i : Nat) (z : Int) :
    TX w g B n c bs gr gq gb gt N A m d X (some ⟨gK, 0, none⟩) k kc (L.set i z) J j jc R (wr.setCell ⟨gK, i, none⟩ (.int .i64 z)) := by
  have h0 : w.heap.size ≤ gK := (I.a.block gK rfl).1
  have h1 := I.low
  have n1 : gK ≠ gr := fun e => own_blk_ne (e := 3) I.a I.res (by decide) (by rw [e]; rfl)
  have n2 : gK ≠ gq := fun e => own_blk_ne (e := 3) I.a I.req (by decide) (by rw [e]; rfl)
  have n3 : gK ≠ gb := fun e => own_blk_ne (e := 3) I.a I.box (by decide) (by rw [e]; rfl)
  have n4 : gK ≠ gt := fun e => own_blk_ne (e := 3) I.a I.tb (by decide) (by rw [e]; rfl)
  exact ⟨I.cur.setM (p := ⟨gK, i, none⟩) (by show g < gK; omega) _, I.res.far (p := ⟨gK, i, none⟩) (Ne.symm n1) _, I.req.far (p := ⟨gK, i, none⟩) (Ne.symm n2) _, I.box.far (p := ⟨gK, i, none⟩) (Ne.symm n3) _, I.tb.far (p := ⟨gK, i, none⟩) (Ne.symm n4) _,
    I.own.kept (grown_setCell wr ⟨gK, i, none⟩ _) (.inr (fun e => I.ap1 gK e rfl)), (I.a.put i z).1, I.b.kept (grown_setCell wr ⟨gK, i, none⟩ _) (.inr (fun e => I.apart gK rfl e)), I.apart, I.ap1, I.ap2,
    gbm_set I.gby (p := ⟨gK, i, none⟩) h0 _, h1, I.hgr, I.lt1, I.lt2, I.lt3⟩
set_option maxRecDepth 100000 in
/-- A parent is stored. -/
theorem TX.putB {w wr : World} {g n c gr gq gb gt m d k kc j jc gJ : Nat} {B A K : Option Addr} {bs X L R : List Int} {N : Int} (I : TX w g B n c bs gr gq gb gt N A m d X K k kc L (some ⟨gJ, 0, none⟩) j jc R wr) (i : Nat) (z : Int) :
    TX w g B n c bs gr gq gb gt N A m d X K k kc L (some ⟨gJ, 0, none⟩) j jc (R.set i z) (wr.setCell ⟨gJ, i, none⟩ (.int .i64 z)) := by
  have h0 : w.heap.size ≤ gJ := (I.b.block gJ rfl).1
  have h1 := I.low
  have n1 : gJ ≠ gr := fun e => own_blk_ne (e := 3) I.b I.res (by decide) (by rw [e]; rfl)
  have n2 : gJ ≠ gq := fun e => own_blk_ne (e := 3) I.b I.req (by decide) (by rw [e]; rfl)
  have n3 : gJ ≠ gb := fun e => own_blk_ne (e := 3) I.b I.box (by decide) (by rw [e]; rfl)
  have n4 : gJ ≠ gt := fun e => own_blk_ne (e := 3) I.b I.tb (by decide) (by rw [e]; rfl)
  exact ⟨I.cur.setM (p := ⟨gJ, i, none⟩) (by show g < gJ; omega) _, I.res.far (p := ⟨gJ, i, none⟩) (Ne.symm n1) _, I.req.far (p := ⟨gJ, i, none⟩) (Ne.symm n2) _, I.box.far (p := ⟨gJ, i, none⟩) (Ne.symm n3) _, I.tb.far (p := ⟨gJ, i, none⟩) (Ne.symm n4) _,
    I.own.kept (grown_setCell wr ⟨gJ, i, none⟩ _) (.inr (fun e => I.ap2 gJ e rfl)), I.a.kept (grown_setCell wr ⟨gJ, i, none⟩ _) (.inr (fun e => I.apart gJ e rfl)), (I.b.put i z).1, I.apart, I.ap1, I.ap2,
    gbm_set I.gby (p := ⟨gJ, i, none⟩) h0 _, h1, I.hgr, I.lt1, I.lt2, I.lt3⟩
set_option maxRecDepth 100000 in
theorem OwnI.cellX {w : World} {base g n c k : Nat} {xs : List Int} (h : OwnI w base (some ⟨g, 0, none⟩) n c xs) (hk : k < n) : w.cell? ((⟨g, 0, none⟩ : Addr).add k) = some (.int .i64 (xs.getD k 0)) := by
  obtain ⟨ad, e, _, hc⟩ := h.ri.at_ hk
  injection e with e
  subst e
  exact hc
set_option maxRecDepth 100000 in
theorem OwnI.take_rf {w : World} {base n c k : Nat} {A : Option Addr} {xs : List Int} (h : OwnI w base A n c xs) (hk : k ≤ n) : RF w base A k (xs.take k) :=
  ⟨h.ri.take hk, fun ad e h0 => h.rf.2 ad e (by omega)⟩
set_option maxRecDepth 100000 in
/-- What is left of the walk: the two results. -/
theorem finT {w wr : World} {g n c gr gq m d k kc j jc : Nat} {B A K J : Option Addr} {bs X L R : List Int} {N : Int} {x y p q : Value} {V1 V2 : Value}
    (hr : Blk wr gr 29 #[x, y]) (hq : Blk wr gq 49 #[p, q]) (ho : OwnI wr w.heap.size A m d X) (ha : OwnI wr w.heap.size K k kc L) (hb : OwnI wr w.heap.size J j jc R) (hC : Cur wr g B n c bs) (hg : w.grownBy wr (some g)) (hgr : w.heap.size ≤ gr) (hlt : gr < gq) (hlow : g < w.heap.size) :
    let Wf := (((wr.setCell ⟨gr, 0, none⟩ (.int .i64 N)).setCell ⟨gr, 1, none⟩ (.slice A m d)).setCell ⟨gq, 0, none⟩ V1).setCell ⟨gq, 1, none⟩ V2
    OwnI Wf w.heap.size A m d X ∧ OwnI Wf w.heap.size K k kc L ∧ OwnI Wf w.heap.size J j jc R ∧ Cur Wf g B n c bs ∧ w.grownBy Wf (some g) ∧
      Blk Wf gr 29 #[.int .i64 N, .slice A m d] ∧ Blk Wf gq 49 #[V1, V2] := by
  have hr1 := hr.set_ 0 (.int .i64 N)
  have hr2 := hr1.set_ 1 (.slice A m d)
  have hq2 := (hq.far (p := ⟨gr, 0, none⟩) (by show gq ≠ gr; omega) (.int .i64 N)).far (p := ⟨gr, 1, none⟩) (by show gq ≠ gr; omega) (.slice A m d)
  have hq3 := hq2.set_ 0 V1
  refine ⟨?_, ?_, ?_, ?_, ?_, ?_, ?_⟩
  · exact (((ho.other_store (i := 0) hr (by decide) _).other_store (i := 1) hr1 (by decide) _).other_store (i := 0) hq2 (by decide) _).other_store (i := 1) hq3 (by decide) _
  · exact (((ha.other_store (i := 0) hr (by decide) _).other_store (i := 1) hr1 (by decide) _).other_store (i := 0) hq2 (by decide) _).other_store (i := 1) hq3 (by decide) _
  · exact (((hb.other_store (i := 0) hr (by decide) _).other_store (i := 1) hr1 (by decide) _).other_store (i := 0) hq2 (by decide) _).other_store (i := 1) hq3 (by decide) _
  · exact (((hC.setM (p := ⟨gr, 0, none⟩) (by show g < gr; omega) _).setM (p := ⟨gr, 1, none⟩) (by show g < gr; omega) _).setM (p := ⟨gq, 0, none⟩) (by show g < gq; omega) _).setM (p := ⟨gq, 1, none⟩) (by show g < gq; omega) _
  · exact gbm_set (gbm_set (gbm_set (gbm_set hg (p := ⟨gr, 0, none⟩) hgr _) (p := ⟨gr, 1, none⟩) hgr _) (p := ⟨gq, 0, none⟩) (by show w.heap.size ≤ gq; omega) _) (p := ⟨gq, 1, none⟩) (by show w.heap.size ≤ gq; omega) _
  · exact (hr2.far (p := ⟨gq, 0, none⟩) (by show gr ≠ gq; omega) V1).far (p := ⟨gq, 1, none⟩) (by show gr ≠ gq; omega) V2
  · exact hq3.set_ 1 V2
/-- A drawn graph and a drawn tree. -/
def Tv (base : Nat) (v : Value) (w' : World) : Prop := ∃ N A m d X K k kc J j jc L R, v = .tuple #[.agg #[.int .i64 N, .slice A m d], .agg #[.slice K k kc, .slice J j jc]] ∧ OwnI w' base A m d X ∧ le6 N X ∧ RF w' base K k L ∧ RF w' base J j R ∧ k ≤ 128 ∧ j ≤ 128
set_option maxRecDepth 100000 in
set_option maxHeartbeats 4000000 in
theorem l8Tree_any {g : Nat} {B : Option Addr} {n c : Nat} {bs : List Int} {w : World} (hC : Cur w g B n c bs) :
    Calls Tryz.prog 94 #[.pointer (some ⟨g, 0, none⟩)] w (Dr g B n c bs w fun v w' => Tv w.heap.size v w') := by
  have hlow := hC.lt
  have hU0 : Up w ((w.alloc (.cells #[.int .i64 0, .slice none 0 0] 29)).alloc (.cells #[.slice none 0 0, .slice none 0 0] 49)) := by go_grown
  have hR0 := (Blk.new w 29 #[.int .i64 0, .slice none 0 0]).alloc (.cells #[.slice none 0 0, .slice none 0 0] 49)
  have hQ0 : Blk ((w.alloc (.cells #[.int .i64 0, .slice none 0 0] 29)).alloc (.cells #[.slice none 0 0, .slice none 0 0] 49)) (w.heap.size + 1) 49 #[.slice none 0 0, .slice none 0 0] := Blk.new_at (by simp)
  have hs0 : ((w.alloc (.cells #[.int .i64 0, .slice none 0 0] 29)).alloc (.cells #[.slice none 0 0, .slice none 0 0] 49)).heap.size = w.heap.size + 2 := by simp
  have hC0 := hC.up hU0
  have hg0 := gb_of_up (some g) hU0
  obtain ⟨gr, hgr⟩ : ∃ gr, gr = w.heap.size := ⟨_, rfl⟩
  obtain ⟨gq, hgq⟩ : ∃ gq, gq = w.heap.size + 1 := ⟨_, rfl⟩
  rw [← hgq] at hQ0
  go_enter Tryz.func94, Tryz.ntmps94
  go_wp2_with fail
  rw [← hgq]
  rw [← hgr] at hR0 ⊢
  have e1 : w.heap.size ≤ gr := by omega
  have e2 : gr < gq := by omega
  have e3 : gq < w.heap.size + 2 := by omega
  clear hgr hgq
  generalize (w.alloc (.cells #[.int .i64 0, .slice none 0 0] 29)).alloc (.cells #[.slice none 0 0, .slice none 0 0] 49) = w0 at hU0 hR0 hQ0 hs0 hC0 hg0 ⊢
  refine (l8Chordal_any hC0).mono ?_
  rintro e w1 ⟨v, rfl, ⟨N, A, m, d, X, rfl, ho, hX⟩, hC1, hg1⟩
  have hs1 := hg1.size
  have hR1 := hR0.grown hg1 (fun e => by injection e with e; omega)
  have hQ1 := hQ0.grown hg1 (fun e => by injection e with e; omega)
  have hG1 := gb_trans hg0 hg1
  have hU2 : Up w1 (w1.alloc (.cells #[.int .i64 N, .slice A m d] 29)) := by go_grown
  have hB2 := Blk.new w1 29 #[.int .i64 N, .slice A m d]
  have ho1 := ho.more (base' := w.heap.size) (by omega)
  have hlA : ∀ i, (Value.slice A m d).ownBlock = some i → i < w1.heap.size := fun i hi => (ho.block i hi).2
  obtain ⟨gb, hgb⟩ : ∃ gb, gb = w1.heap.size := ⟨_, rfl⟩
  have hC2 := hC1.up hU2
  have hR2 := hR1.up hU2
  have hQ2 := hQ1.up hU2
  have hG2 := gb_up hG1 hU2
  have ho2 := ho1.up hU2
  have hs2 : (w1.alloc (.cells #[.int .i64 N, .slice A m d] 29)).heap.size = w1.heap.size + 1 := by simp
  rw [← hgb] at hB2 hlA hs2
  clear hR0 hQ0 hC0 hg0 hU0 ho hC hC1 hR1 hQ1 hG1 ho1 hU2 hg1
  go_wp2_with fail
  rw [← hgb]
  have e4 : w1.heap.size ≤ gb := by omega
  clear hgb
  generalize w1.alloc (.cells #[.int .i64 N, .slice A m d] 29) = w2 at hB2 hC2 hR2 hQ2 hG2 ho2 hs2 ⊢
  have hm6 : m ≤ 6 := by rw [← ho2.len]; exact hX
  refine (specCliqueTreeOf_any N A m d X _ ho2.ri (by omega)).mono ?_
  rintro e w3 ⟨K, kc, J, jc, rfl, hK, hJ, hap, hb3⟩
  have hcl := ctOf_len N X
  have hcs := ct_same N X
  obtain ⟨L, hL⟩ : ∃ L, L = (ctOf N X).1 := ⟨_, rfl⟩
  obtain ⟨R, hR⟩ : ∃ R, R = (ctOf N X).2.1 := ⟨_, rfl⟩
  obtain ⟨yes, hy⟩ : ∃ yes, yes = (ctOf N X).2.2 := ⟨_, rfl⟩
  rw [← hL] at hK hap hcl hcs ⊢
  rw [← hR] at hJ hap hcl hcs ⊢
  rw [← hy]
  rw [hcs] at hJ hap ⊢
  obtain ⟨hcl, _⟩ := hcl
  have HLR := Lib.hid hcs
  clear hL hR hy hcs
  have hU4 : Up w3 (w3.alloc (.cells #[.slice K L.length kc, .slice J L.length jc] 49)) := by go_grown
  have hs3 := hb3.size
  have hblt := hB2.lt
  have I : TX w g B n c bs gr gq gb w3.heap.size N A m d X K L.length kc L J L.length jc R (w3.alloc (.cells #[.slice K L.length kc, .slice J L.length jc] 49)) :=
    ⟨(hC2.up hb3).up hU4, (hR2.up hb3).up hU4, (hQ2.up hb3).up hU4, (hB2.up hb3).up hU4, Blk.new _ _ _, (ho2.up hb3).up hU4, (hK.more (by omega)).up hU4, (hJ.more (by omega)).up hU4, hap,
      fun i h1 h2 => by have := hlA i h1; have := (hK.block i h2).1; omega, fun i h1 h2 => by have := hlA i h1; have := (hJ.block i h2).1; omega, gb_up (gb_up hG2 hb3) hU4, hlow, by omega, by omega, by omega, by omega⟩
  clear hC2 hR2 hQ2 hB2 ho2 hK hJ hap hG2 hlA hb3 hU4 hs1 hs2 hs0
  obtain ⟨gt, hgt⟩ : ∃ gt, gt = w3.heap.size := ⟨_, rfl⟩
  rw [← hgt] at I
  have hRl := HLR.out
  clear HLR
  by_cases hk0 : 0 < L.length
  · go_wp2_with fail
    rw [← hgt]
    clear hgt
    generalize w3.alloc (.cells #[.slice K L.length kc, .slice J L.length jc] 49) = w4 at I ⊢
    clear hs3 hblt e1 e2 e3 e4
    have hyt := I.tb.two
    have hlt4 := I.tb.lt
    (try go_wp2_with fail)
    refine (l1Below_any I.cur 8 (by omega) (by omega)).mono ?_
    rintro e w5 ⟨v, rfl, ⟨x, rfl, hx⟩, hC5, hg5⟩
    replace I := I.dr hC5 hg5
    clear hC5 hg5 hyt hlt4
    by_cases hx0 : x = 0
    · subst hx0
      obtain ⟨gK, rfl⟩ := I.a.form hk0
      have hyt := I.tb.two
      have hlt4 := I.tb.lt
      have hgl := I.cur.lt
      go_wp2_with fail
      go_region_held3 (fun w' => w'.cell? ⟨gt, 0, none⟩ = some (.slice (some ⟨gK, 0, none⟩) L.length kc) ∧ w'.cell? ⟨gt, 1, none⟩ = some (.slice J L.length jc)) (first | exact I7.tb.two | exact (I7.putA x6 z).tb.two | exact (I6.up (w' := _) (by first | exact Up.refl _ | exact Below.drew (Up.refl _) | (go_grown; done))).tb.two | exact (I.up (w' := _) (by first | exact Up.refl _ | exact Below.drew (Up.refl _) | (go_grown; done))).tb.two) (first
        | (go_at_call 77; refine (l1Below_any (I.up (w' := _) (by first | exact Up.refl _ | exact Below.drew (Up.refl _) | (go_grown; done))).cur L.length (by omega) (by omega)).mono ?_; rintro e w6 ⟨v, rfl, ⟨x6, rfl, hx6⟩, hC6, hg6⟩; have I6 := (I.up (by first | exact Up.refl _ | exact Below.drew (Up.refl _) | (go_grown; done))).dr hC6 hg6; have hyt6 := I6.tb.two; have hlt6 := I6.tb.lt; have hgl6 := I6.cur.lt; (try have hL6 : RI w6 (some ⟨w5.heap.size, 0, none⟩) 5 [-1, 0, 1, 3, 128] := RI.grown (by first | exact Blk.ri (Blk.new _ 3 _) rfl | exact RI.drew (Blk.ri (Blk.new _ 3 _) rfl)) hg6 (fun ad e e2 => by injection e with e; subst e; injection e2 with e2; have e3 : w5.heap.size = g := e2; omega)))
        | (go_at_call 76; refine (l1PickInt_any (I6.up (w' := _) (by first | exact Up.refl _ | exact Below.drew (Up.refl _) | (go_grown; done))).cur (xs := [-1, 0, 1, 3, 128]) (by first | exact hL6 | exact Blk.ri (Blk.new _ 3 _) rfl) (fun ad e => by injection e with e; subst e; first | (show w5.heap.size ≠ g; omega) | (show w6.heap.size ≠ g; omega)) (by omega) (by omega)).mono ?_; rintro e w7 ⟨v, rfl, ⟨j7, hj7, rfl⟩, hC7, hg7⟩; obtain ⟨z, hz⟩ : ∃ z, z = ([-1, 0, 1, 3, 128] : List Int).getD j7 0 := ⟨_, rfl⟩; rw [← hz]; clear hz hj7; have I7 := (I6.up (by first | exact Up.refl _ | exact Below.drew (Up.refl _) | (go_grown; done))).dr hC7 hg7; have hyt7 := I7.tb.two; have hlt7 := I7.tb.lt; have hc7 := I7.a.cellX hx6; have hf7 := I7.a.frz x6; have hc8 := hc7; have hf8 := hf7; rw [add_0_] at hc8; rw [← add_0_] at hf7))
      all_goals
        replace I := I7.putA x6 z
        clear I7 I6 hyt7 hlt7 hc7 hf7 hc8 hf8 hyt6 hlt6 hyt hlt4 hg7 hC7 hg6 hC6
        (try rw [add_0_])
        generalize w7.setCell ⟨gK, x6, none⟩ (.int .i64 z) = w8 at I ⊢
        have hyb := I.box.two
        have hyt := I.tb.two
        have hr := I.res
        have hq := I.req
        have ho := I.own
        have ha := I.a
        have hb := I.b
        have hC := I.cur
        have hg := I.gby
        have hlt1 := I.lt1
        have hlow2 := I.low
        have hgr2 := I.hgr
        have hyr := hr.two
        have hf0 := hr.frozen 0
        have hf1 := hr.frozen 1
        have hyq := hq.two
        have hq0 := hq.frozen 0
        have hq1 := hq.frozen 1
        have hlt2 := I.lt2
        have hlt3 := I.lt3
        have hne : gr ≠ gq := by omega
        have hne2 := Ne.symm hne
        have m1 : gt ≠ gr := by omega
        have m2 := Ne.symm m1
        have m3 : gt ≠ gq := by omega
        have m4 := Ne.symm m3
        have m5 : gb ≠ gr := by omega
        have m6 := Ne.symm m5
        have m7 : gb ≠ gq := by omega
        have m8 := Ne.symm m7
        obtain ⟨f1, f2, f3, f4, f5, f6, f7⟩ := finT (N := N) (V1 := .slice (some ⟨gK, 0, none⟩) L.length kc) (V2 := .slice J L.length jc) hr hq ho ha hb hC hg hgr2 hlt1 hlow2
        replace f1 := f1.drew
        replace f2 := f2.drew
        replace f3 := f3.drew
        replace f4 := f4.up (w' := ((((w8.setCell ⟨gr, 0, none⟩ (.int .i64 N)).setCell ⟨gr, 1, none⟩ (.slice A m d)).setCell ⟨gq, 0, none⟩ (.slice (some ⟨gK, 0, none⟩) L.length kc)).setCell ⟨gq, 1, none⟩ (.slice J L.length jc)).drew) (Below.drew (Up.refl _))
        replace f5 := gb_up f5 (Below.drew (Up.refl _))
        replace f6 := f6.drew.two
        replace f7 := f7.drew.two
        clear I hr hq ho ha hb hC hg
        go_wp2_with fail
        go_region
        all_goals
          go_wp2
          generalize ((((w8.setCell ⟨gr, 0, none⟩ (.int .i64 N)).setCell ⟨gr, 1, none⟩ (.slice A m d)).setCell ⟨gq, 0, none⟩ (.slice (some ⟨gK, 0, none⟩) L.length kc)).setCell ⟨gq, 1, none⟩ (.slice J L.length jc)).drew = Wf at f1 f2 f3 f4 f5 f6 f7 ⊢
          refine bodyPost_ret (v := .tuple #[.agg #[.int .i64 N, .slice A m d], .agg #[.slice (some ⟨gK, 0, none⟩) L.length kc, .slice J L.length jc]]) ?_ rfl ?_
          · simp [results, Tryz.results94, go_sem, f6, f7]
          exact ⟨_, rfl, ⟨N, A, m, d, X, _, L.length, kc, _, L.length, jc, _, _, rfl, f1, hX, f2.rf, f3.rf, by omega, by omega⟩, f4, f5⟩
    · have hxb0 : ((x : Int) == 0) = false := by rw [beq_eq_false_iff_ne]; omega
      by_cases hx1 : x = 1
      · subst hx1
        obtain ⟨gJ, rfl⟩ := I.b.form hk0
        have hyt := I.tb.two
        have hlt4 := I.tb.lt
        have hgl := I.cur.lt
        go_wp2_with fail
        go_region_held3 (fun w' => w'.cell? ⟨gt, 0, none⟩ = some (.slice K L.length kc) ∧ w'.cell? ⟨gt, 1, none⟩ = some (.slice (some ⟨gJ, 0, none⟩) L.length jc)) (first | exact I7.tb.two | exact (I7.putB x6 z).tb.two | exact (I6.up (w' := _) (by first | exact Up.refl _ | exact Below.drew (Up.refl _) | (go_grown; done))).tb.two | exact (I.up (w' := _) (by first | exact Up.refl _ | exact Below.drew (Up.refl _) | (go_grown; done))).tb.two) (first
          | (go_at_call 77; refine (l1Below_any (I.up (w' := _) (by first | exact Up.refl _ | exact Below.drew (Up.refl _) | (go_grown; done))).cur L.length (by omega) (by omega)).mono ?_; rintro e w6 ⟨v, rfl, ⟨x6, rfl, hx6⟩, hC6, hg6⟩; have I6 := (I.up (by first | exact Up.refl _ | exact Below.drew (Up.refl _) | (go_grown; done))).dr hC6 hg6; have hyt6 := I6.tb.two; have hlt6 := I6.tb.lt; have hgl6 := I6.cur.lt; (try have hL6 : RI w6 (some ⟨w5.heap.size, 0, none⟩) 4 [-1, 0, 1, 9] := RI.grown (by first | exact Blk.ri (Blk.new _ 3 _) rfl | exact RI.drew (Blk.ri (Blk.new _ 3 _) rfl)) hg6 (fun ad e e2 => by injection e with e; subst e; injection e2 with e2; have e3 : w5.heap.size = g := e2; omega)))
          | (go_at_call 76; refine (l1PickInt_any (I6.up (w' := _) (by first | exact Up.refl _ | exact Below.drew (Up.refl _) | (go_grown; done))).cur (xs := [-1, 0, 1, 9]) (by first | exact hL6 | exact Blk.ri (Blk.new _ 3 _) rfl) (fun ad e => by injection e with e; subst e; first | (show w5.heap.size ≠ g; omega) | (show w6.heap.size ≠ g; omega)) (by omega) (by omega)).mono ?_; rintro e w7 ⟨v, rfl, ⟨j7, hj7, rfl⟩, hC7, hg7⟩; obtain ⟨z, hz⟩ : ∃ z, z = ([-1, 0, 1, 9] : List Int).getD j7 0 := ⟨_, rfl⟩; rw [← hz]; clear hz hj7; have I7 := (I6.up (by first | exact Up.refl _ | exact Below.drew (Up.refl _) | (go_grown; done))).dr hC7 hg7; have hyt7 := I7.tb.two; have hlt7 := I7.tb.lt; have hc7 := I7.b.cellX hx6; have hf7 := I7.b.frz x6; have hc8 := hc7; have hf8 := hf7; rw [add_0_] at hc8; rw [← add_0_] at hf7))
        all_goals
          replace I := I7.putB x6 z
          clear I7 I6 hyt7 hlt7 hc7 hf7 hc8 hf8 hyt6 hlt6 hyt hlt4 hg7 hC7 hg6 hC6
          (try rw [add_0_])
          generalize w7.setCell ⟨gJ, x6, none⟩ (.int .i64 z) = w8 at I ⊢
          have hyb := I.box.two
          have hyt := I.tb.two
          have hr := I.res
          have hq := I.req
          have ho := I.own
          have ha := I.a
          have hb := I.b
          have hC := I.cur
          have hg := I.gby
          have hlt1 := I.lt1
          have hlow2 := I.low
          have hgr2 := I.hgr
          have hyr := hr.two
          have hf0 := hr.frozen 0
          have hf1 := hr.frozen 1
          have hyq := hq.two
          have hq0 := hq.frozen 0
          have hq1 := hq.frozen 1
          have hlt2 := I.lt2
          have hlt3 := I.lt3
          have hne : gr ≠ gq := by omega
          have hne2 := Ne.symm hne
          have m1 : gt ≠ gr := by omega
          have m2 := Ne.symm m1
          have m3 : gt ≠ gq := by omega
          have m4 := Ne.symm m3
          have m5 : gb ≠ gr := by omega
          have m6 := Ne.symm m5
          have m7 : gb ≠ gq := by omega
          have m8 := Ne.symm m7
          obtain ⟨f1, f2, f3, f4, f5, f6, f7⟩ := finT (N := N) (V1 := .slice K L.length kc) (V2 := .slice (some ⟨gJ, 0, none⟩) L.length jc) hr hq ho ha hb hC hg hgr2 hlt1 hlow2
          replace f1 := f1.drew
          replace f2 := f2.drew
          replace f3 := f3.drew
          replace f4 := f4.up (w' := ((((w8.setCell ⟨gr, 0, none⟩ (.int .i64 N)).setCell ⟨gr, 1, none⟩ (.slice A m d)).setCell ⟨gq, 0, none⟩ (.slice K L.length kc)).setCell ⟨gq, 1, none⟩ (.slice (some ⟨gJ, 0, none⟩) L.length jc)).drew) (Below.drew (Up.refl _))
          replace f5 := gb_up f5 (Below.drew (Up.refl _))
          replace f6 := f6.drew.two
          replace f7 := f7.drew.two
          clear I hr hq ho ha hb hC hg
          go_wp2_with fail
          go_region
          all_goals
            go_wp2
            generalize ((((w8.setCell ⟨gr, 0, none⟩ (.int .i64 N)).setCell ⟨gr, 1, none⟩ (.slice A m d)).setCell ⟨gq, 0, none⟩ (.slice K L.length kc)).setCell ⟨gq, 1, none⟩ (.slice (some ⟨gJ, 0, none⟩) L.length jc)).drew = Wf at f1 f2 f3 f4 f5 f6 f7 ⊢
            refine bodyPost_ret (v := .tuple #[.agg #[.int .i64 N, .slice A m d], .agg #[.slice K L.length kc, .slice (some ⟨gJ, 0, none⟩) L.length jc]]) ?_ rfl ?_
            · simp [results, Tryz.results94, go_sem, f6, f7]
            exact ⟨_, rfl, ⟨N, A, m, d, X, _, L.length, kc, _, L.length, jc, _, _, rfl, f1, hX, f2.rf, f3.rf, by omega, by omega⟩, f4, f5⟩
      · have hxb1 : ((x : Int) == 1) = false := by rw [beq_eq_false_iff_ne]; omega
        by_cases hx2 : x = 2
        · subst hx2
          obtain ⟨gK, rfl⟩ := I.a.form hk0
          have hcap := I.a.cap
          have hyt5 := I.tb.two
          have hft := I.tb.frozen 0
          have hlt4 := I.tb.lt
          have n1 : gr ≠ gt := by have := I.lt1; have := I.lt2; have := I.lt3; omega
          have n2 : gq ≠ gt := by have := I.lt2; have := I.lt3; omega
          have n3 : gb ≠ gt := by have := I.lt3; omega
          have hr := I.res.far (p := ⟨gt, 0, none⟩) n1 (.slice (some ⟨gK, 0, none⟩) (L.length - 1) kc)
          have hq := I.req.far (p := ⟨gt, 0, none⟩) n2 (.slice (some ⟨gK, 0, none⟩) (L.length - 1) kc)
          have hyb := (I.box.far (p := ⟨gt, 0, none⟩) n3 (.slice (some ⟨gK, 0, none⟩) (L.length - 1) kc)).two
          have hyt := (I.tb.set_ 0 (.slice (some ⟨gK, 0, none⟩) (L.length - 1) kc)).two
          have ho := I.own.other_store (i := 0) I.tb (by decide) (.slice (some ⟨gK, 0, none⟩) (L.length - 1) kc)
          have ha := I.a.other_store (i := 0) I.tb (by decide) (.slice (some ⟨gK, 0, none⟩) (L.length - 1) kc)
          have hb := I.b.other_store (i := 0) I.tb (by decide) (.slice (some ⟨gK, 0, none⟩) (L.length - 1) kc)
          have hC := I.cur.setM (p := ⟨gt, 0, none⟩) (by have := I.low; have := I.hgr; have := I.lt1; have := I.lt2; have := I.lt3; show g < gt; omega) (.slice (some ⟨gK, 0, none⟩) (L.length - 1) kc)
          have hg := gbm_set I.gby (p := ⟨gt, 0, none⟩) (by have := I.hgr; have := I.lt1; have := I.lt2; have := I.lt3; show w.heap.size ≤ gt; omega) (.slice (some ⟨gK, 0, none⟩) (L.length - 1) kc)
          go_wp2_with fail
          generalize w5.setCell ⟨gt, 0, none⟩ (.slice (some ⟨gK, 0, none⟩) (L.length - 1) kc) = w8 at hr hq hyb hyt ho ha hb hC hg ⊢
          clear hyt5 hft hlt4
          have hlt1 := I.lt1
          have hlow2 := I.low
          have hgr2 := I.hgr
          have hyr := hr.two
          have hf0 := hr.frozen 0
          have hf1 := hr.frozen 1
          have hyq := hq.two
          have hq0 := hq.frozen 0
          have hq1 := hq.frozen 1
          have hlt2 := I.lt2
          have hlt3 := I.lt3
          have hne : gr ≠ gq := by omega
          have hne2 := Ne.symm hne
          have m1 : gt ≠ gr := by omega
          have m2 := Ne.symm m1
          have m3 : gt ≠ gq := by omega
          have m4 := Ne.symm m3
          have m5 : gb ≠ gr := by omega
          have m6 := Ne.symm m5
          have m7 : gb ≠ gq := by omega
          have m8 := Ne.symm m7
          obtain ⟨f1, f2, f3, f4, f5, f6, f7⟩ := finT (N := N) (V1 := .slice (some ⟨gK, 0, none⟩) (L.length - 1) kc) (V2 := .slice J L.length jc) hr hq ho ha hb hC hg hgr2 hlt1 hlow2
          replace f1 := f1.drew
          replace f2 := f2.drew
          replace f3 := f3.drew
          replace f4 := f4.up (w' := ((((w8.setCell ⟨gr, 0, none⟩ (.int .i64 N)).setCell ⟨gr, 1, none⟩ (.slice A m d)).setCell ⟨gq, 0, none⟩ (.slice (some ⟨gK, 0, none⟩) (L.length - 1) kc)).setCell ⟨gq, 1, none⟩ (.slice J L.length jc)).drew) (Below.drew (Up.refl _))
          replace f5 := gb_up f5 (Below.drew (Up.refl _))
          replace f6 := f6.drew.two
          replace f7 := f7.drew.two
          clear I hr hq ho ha hb hC hg
          go_wp2_with fail
          go_region
          all_goals
            go_wp2
            generalize ((((w8.setCell ⟨gr, 0, none⟩ (.int .i64 N)).setCell ⟨gr, 1, none⟩ (.slice A m d)).setCell ⟨gq, 0, none⟩ (.slice (some ⟨gK, 0, none⟩) (L.length - 1) kc)).setCell ⟨gq, 1, none⟩ (.slice J L.length jc)).drew = Wf at f1 f2 f3 f4 f5 f6 f7 ⊢
            refine bodyPost_ret (v := .tuple #[.agg #[.int .i64 N, .slice A m d], .agg #[.slice (some ⟨gK, 0, none⟩) (L.length - 1) kc, .slice J L.length jc]]) ?_ rfl ?_
            · simp [results, Tryz.results94, go_sem, f6, f7]
            exact ⟨_, rfl, ⟨N, A, m, d, X, _, (L.length - 1), kc, _, L.length, jc, _, _, rfl, f1, hX, f2.take_rf (by omega), f3.rf, by omega, by omega⟩, f4, f5⟩
        · have hxb2 : ((x : Int) == 2) = false := by rw [beq_eq_false_iff_ne]; omega
          have hyb := I.box.two
          have hyt := I.tb.two
          have hr := I.res
          have hq := I.req
          have ho := I.own
          have ha := I.a
          have hb := I.b
          have hC := I.cur
          have hg := I.gby
          have hlt1 := I.lt1
          have hlow2 := I.low
          have hgr2 := I.hgr
          have hyr := hr.two
          have hf0 := hr.frozen 0
          have hf1 := hr.frozen 1
          have hyq := hq.two
          have hq0 := hq.frozen 0
          have hq1 := hq.frozen 1
          have hlt2 := I.lt2
          have hlt3 := I.lt3
          have hne : gr ≠ gq := by omega
          have hne2 := Ne.symm hne
          have m1 : gt ≠ gr := by omega
          have m2 := Ne.symm m1
          have m3 : gt ≠ gq := by omega
          have m4 := Ne.symm m3
          have m5 : gb ≠ gr := by omega
          have m6 := Ne.symm m5
          have m7 : gb ≠ gq := by omega
          have m8 := Ne.symm m7
          obtain ⟨f1, f2, f3, f4, f5, f6, f7⟩ := finT (N := N) (V1 := .slice K L.length kc) (V2 := .slice J L.length jc) hr hq ho ha hb hC hg hgr2 hlt1 hlow2
          replace f1 := f1.drew
          replace f2 := f2.drew
          replace f3 := f3.drew
          replace f4 := f4.up (w' := ((((w5.setCell ⟨gr, 0, none⟩ (.int .i64 N)).setCell ⟨gr, 1, none⟩ (.slice A m d)).setCell ⟨gq, 0, none⟩ (.slice K L.length kc)).setCell ⟨gq, 1, none⟩ (.slice J L.length jc)).drew) (Below.drew (Up.refl _))
          replace f5 := gb_up f5 (Below.drew (Up.refl _))
          replace f6 := f6.drew.two
          replace f7 := f7.drew.two
          clear I hr hq ho ha hb hC hg
          go_wp2_with fail
          go_region
          all_goals
            go_wp2
            generalize ((((w5.setCell ⟨gr, 0, none⟩ (.int .i64 N)).setCell ⟨gr, 1, none⟩ (.slice A m d)).setCell ⟨gq, 0, none⟩ (.slice K L.length kc)).setCell ⟨gq, 1, none⟩ (.slice J L.length jc)).drew = Wf at f1 f2 f3 f4 f5 f6 f7 ⊢
            refine bodyPost_ret (v := .tuple #[.agg #[.int .i64 N, .slice A m d], .agg #[.slice K L.length kc, .slice J L.length jc]]) ?_ rfl ?_
            · simp [results, Tryz.results94, go_sem, f6, f7]
            exact ⟨_, rfl, ⟨N, A, m, d, X, _, L.length, kc, _, L.length, jc, _, _, rfl, f1, hX, f2.rf, f3.rf, by omega, by omega⟩, f4, f5⟩
  · skip
    go_wp2_with fail
    rw [← hgt]
    clear hgt
    generalize w3.alloc (.cells #[.slice K L.length kc, .slice J L.length jc] 49) = w4 at I ⊢
    clear hs3 hblt e1 e2 e3 e4
    have hyb := I.box.two
    have hyt := I.tb.two
    have hr := I.res
    have hq := I.req
    have ho := I.own
    have ha := I.a
    have hb := I.b
    have hC := I.cur
    have hg := I.gby
    have hlt1 := I.lt1
    have hlow2 := I.low
    have hgr2 := I.hgr
    have hyr := hr.two
    have hf0 := hr.frozen 0
    have hf1 := hr.frozen 1
    have hyq := hq.two
    have hq0 := hq.frozen 0
    have hq1 := hq.frozen 1
    have hlt2 := I.lt2
    have hlt3 := I.lt3
    have hne : gr ≠ gq := by omega
    have hne2 := Ne.symm hne
    have m1 : gt ≠ gr := by omega
    have m2 := Ne.symm m1
    have m3 : gt ≠ gq := by omega
    have m4 := Ne.symm m3
    have m5 : gb ≠ gr := by omega
    have m6 := Ne.symm m5
    have m7 : gb ≠ gq := by omega
    have m8 := Ne.symm m7
    obtain ⟨f1, f2, f3, f4, f5, f6, f7⟩ := finT (N := N) (V1 := .slice K L.length kc) (V2 := .slice J L.length jc) hr hq ho ha hb hC hg hgr2 hlt1 hlow2
    replace f1 := f1.drew
    replace f2 := f2.drew
    replace f3 := f3.drew
    replace f4 := f4.up (w' := ((((w4.setCell ⟨gr, 0, none⟩ (.int .i64 N)).setCell ⟨gr, 1, none⟩ (.slice A m d)).setCell ⟨gq, 0, none⟩ (.slice K L.length kc)).setCell ⟨gq, 1, none⟩ (.slice J L.length jc)).drew) (Below.drew (Up.refl _))
    replace f5 := gb_up f5 (Below.drew (Up.refl _))
    replace f6 := f6.drew.two
    replace f7 := f7.drew.two
    clear I hr hq ho ha hb hC hg
    (try go_wp2_with fail)
    go_region
    all_goals
      go_wp2
      generalize ((((w4.setCell ⟨gr, 0, none⟩ (.int .i64 N)).setCell ⟨gr, 1, none⟩ (.slice A m d)).setCell ⟨gq, 0, none⟩ (.slice K L.length kc)).setCell ⟨gq, 1, none⟩ (.slice J L.length jc)).drew = Wf at f1 f2 f3 f4 f5 f6 f7 ⊢
      refine bodyPost_ret (v := .tuple #[.agg #[.int .i64 N, .slice A m d], .agg #[.slice K L.length kc, .slice J L.length jc]]) ?_ rfl ?_
      · simp [results, Tryz.results94, go_sem, f6, f7]
      exact ⟨_, rfl, ⟨N, A, m, d, X, _, L.length, kc, _, L.length, jc, _, _, rfl, f1, hX, f2.rf, f3.rf, by omega, by omega⟩, f4, f5⟩
end Go.Proofs.YthncdjcmlpiebaaGreatDoor
