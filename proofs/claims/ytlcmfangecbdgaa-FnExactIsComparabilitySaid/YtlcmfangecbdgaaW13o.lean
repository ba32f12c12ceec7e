/- Walks of chapter 13: the program's copy of a graph; an edge flipped. -/
import Derived.Test.YtlcmfangecbdgaaW13n
import Derived.Test.YtlcmfangecbdgaaW2b
import Derived.Test.YtlcmfangecbdgaaPure13o
import Derived.StillTailTactics
import Derived.Deep.Upon
namespace Go.Proofs.Ytlcmfangecbdgaa
open Go.RowKit
theorem RI.none_ {w : World} {n : Nat} {X : List Int} (h : RI w none n X) : n = 0 ∧ X = [] := by
  have h0 : n = 0 := by
    rcases Nat.eq_zero_or_pos n with e | e
    · exact e
    · obtain ⟨_, e2, _⟩ := h.at_ e; cases e2
  subst h0
  exact ⟨rfl, List.eq_nil_of_length_eq_zero h.1⟩
/-- Nothing is appended. -/
theorem step_append_none {ops : Array Oper} {o : Oper} {a : Act} {w : World} {K : Act → World → Prop} {Q : Exit → Act → World → Prop} {E : Prop} (hgd : o.guard = none) (s x : Operand)
    (ho : o.op = .call { callee := .builtin .append, args := #[s, x], argTypes := #[22, 22] }) {n c d : Nat} {A : Option Addr} (hs : a.eval s = .slice A n c) (hle : n ≤ c) (hx : a.eval x = .slice none 0 d)
    (hK : K (a.put o.dst (.slice A n c)) w) : if Region.wanted o (yielded ops a.tmps) = true then Oper.wp Try.prog o a w K Q else E := by
  have hw : Region.wanted o (yielded ops a.tmps) = true := by simp [Region.wanted, hgd]
  rw [if_pos hw]
  obtain ⟨i0, hi, hz0, hz1, hz2⟩ := info_parts Try.info3
  have hr := run_append_nothing (P := Try.prog) w 22 22 o.type 3 i0 Try.underlying22 hi A n c hle (.slice none 0 d) (Src.ofNil w Try.underlying22 d)
  unfold Oper.wp execOp
  simp only [ho, resolve, invoke, builtin, Sem.run_bind, Sem.run_pure, Result.andThen_ok, List.map_toArray, List.map_cons, List.map_nil, hs, hx, hr]
  exact hK
set_option maxHeartbeats 1000000 in
theorem copyGraph_none (N : Int) (c : Nat) (w : World) :
    Calls Try.prog 89 #[.agg #[.int .i64 N, .slice none 0 c]] w (GivesG N [] w) := by
  have hb0 := (Blk.new w 27 #[.int .i64 N, .slice none 0 c]).alloc (.cells #[.int .i64 0, .slice none 0 0] 27)
  have hb2 := Blk.new_at (w := w.alloc (.cells #[.int .i64 N, .slice none 0 c] 27)) (t := 27) (cs := #[.int .i64 0, .slice none 0 0]) (g := w.heap.size + 1) (by simp)
  have hbel : Below w.heap.size w ((w.alloc (.cells #[.int .i64 N, .slice none 0 c] 27)).alloc (.cells #[.int .i64 0, .slice none 0 0] 27)) := by go_grown
  go_enter Try.func89, Try.ntmps89
  go_wp2_with fail
  obtain ⟨W0, hW0⟩ : ∃ W0, W0 = (w.alloc (.cells #[.int .i64 N, .slice none 0 c] 27)).alloc (.cells #[.int .i64 0, .slice none 0 0] 27) := ⟨_, rfl⟩
  rw [← hW0] at hb0 hb2 hbel
  rw [← hW0]
  clear hW0
  have hl0 := hb0.lt
  have hl2 := hb2.lt
  have hd5 := (hb2.alloc (.cells #[] 3)).drew
  have hc5 := (hb0.alloc (.cells #[] 3)).drew
  have hon := (OwnI.made (base := W0.heap.size) W0 (Nat.le_refl _)).drew
  have hbb : Below w.heap.size w (W0.alloc (.cells #[] 3)).drew := (hbel.alloc (by omega) _).drew
  go_region_held3 (fun w' => w'.cell? ⟨w.heap.size, 0, none⟩ = some (.int .i64 N) ∧ w'.cell? ⟨w.heap.size, 1, none⟩ = some (.slice none 0 c))
    (first | exact hc5.two | exact hb0.drew.two | exact (hb0.drew.alloc _).two | exact (hb0.alloc _).drew.two | exact ((hc5.far (by simp) _).far (by simp) _).two)
    (first | (refine step_append_none rfl (.tmp 5) (.tmp 7) rfl rfl (Nat.le_refl 0) rfl ?_; obtain ⟨w5, hw5⟩ : ∃ w5, w5 = (W0.alloc (.cells #[] 3)).drew := ⟨_, rfl⟩; rw [← hw5] at hd5 hc5 hbb hon; rw [← hw5]; clear hw5; have e5 := hd5.two; have f5 := hd5.frozen 0; have g5 := hd5.frozen 1))
  have hfin := (hd5.set_ 0 (.int .i64 N)).set_ 1 (.slice (some ⟨W0.heap.size, 0, none⟩) 0 0)
  have hyf := hfin.two
  have hof := (hon.other_store (i := 0) hd5 (by decide) (.int .i64 N)).other_store (i := 1) (hd5.set_ 0 (.int .i64 N)) (by decide) (.slice (some ⟨W0.heap.size, 0, none⟩) 0 0)
  have hbf : Below w.heap.size w ((w5.setCell ⟨w.heap.size + 1, 0, none⟩ (.int .i64 N)).setCell ⟨w.heap.size + 1, 1, none⟩ (.slice (some ⟨W0.heap.size, 0, none⟩) 0 0)) := (hbb.setCell (by simp) _).setCell (by simp) _
  go_wp2
  generalize (w5.setCell ⟨w.heap.size + 1, 0, none⟩ (.int .i64 N)).setCell ⟨w.heap.size + 1, 1, none⟩ (.slice (some ⟨W0.heap.size, 0, none⟩) 0 0) = Wf at hfin hyf hof hbf ⊢
  refine bodyPost_ret (v := .agg #[.int .i64 N, .slice (some ⟨W0.heap.size, 0, none⟩) 0 0]) ?_ rfl ?_
  · simp [results, Try.results89, go_sem, hyf]
  exact ⟨_, _, rfl, hof.more hbel.size, hbf⟩
set_option maxHeartbeats 1000000 in
theorem copyGraph_some (N : Int) (ad : Addr) (n c : Nat) (X : List Int) (w : World) (hX : RI w (some ad) n X) (hn : n ≤ 1048576) :
    Calls Try.prog 89 #[.agg #[.int .i64 N, .slice (some ad) n c]] w (GivesG N X w) := by
  have hl := Lib.hid hX.1
  have hX2 : RI ((w.alloc (.cells #[.int .i64 N, .slice (some ad) n c] 27)).alloc (.cells #[.int .i64 0, .slice none 0 0] 27)) (some ad) n X := hX.up (by go_grown)
  have hb0 := (Blk.new w 27 #[.int .i64 N, .slice (some ad) n c]).alloc (.cells #[.int .i64 0, .slice none 0 0] 27)
  have hb2 := Blk.new_at (w := w.alloc (.cells #[.int .i64 N, .slice (some ad) n c] 27)) (t := 27) (cs := #[.int .i64 0, .slice none 0 0]) (g := w.heap.size + 1) (by simp)
  have hbel : Below w.heap.size w ((w.alloc (.cells #[.int .i64 N, .slice (some ad) n c] 27)).alloc (.cells #[.int .i64 0, .slice none 0 0] 27)) := by go_grown
  go_enter Try.func89, Try.ntmps89
  go_wp2_with fail
  obtain ⟨W0, hW0⟩ : ∃ W0, W0 = (w.alloc (.cells #[.int .i64 N, .slice (some ad) n c] 27)).alloc (.cells #[.int .i64 0, .slice none 0 0] 27) := ⟨_, rfl⟩
  rw [← hW0] at hX2 hb0 hb2 hbel
  rw [← hW0]
  clear hW0
  have hl0 := hb0.lt
  have hl2 := hb2.lt
  have hown0 := OwnI.made (base := W0.heap.size) W0.drew (Nat.le_refl _)
  go_region_held3 (fun w' => w'.cell? ⟨w.heap.size, 0, none⟩ = some (.int .i64 N) ∧ w'.cell? ⟨w.heap.size, 1, none⟩ = some (.slice (some ad) n c))
    (first | exact (hb0.drew.alloc _).two | exact hb0.drew.two | exact hc5.two | exact ((hc5.far (by simp) _).far (by simp) _).two)
    (first | (refine step_append_new rfl (.tmp 5) (.tmp 7) rfl rfl hown0 rfl (hX2.drew.alloc _) hn (by simp) ?_; intro A' c' w5 hown5 hb5 hg5; have hc5 := (hb0.drew.alloc (.cells #[] 3)).below hb5 hl0; have hd5 := (hb2.drew.alloc (.cells #[] 3)).below hb5 hl2; have e5 := hd5.two; have f5 := hd5.frozen 0; have g5 := hd5.frozen 1))
  have hfin := (hd5.set_ 0 (.int .i64 N)).set_ 1 (.slice A' n c')
  have hyf := hfin.two
  have hof := (hown5.other_store (i := 0) hd5 (by decide) (.int .i64 N)).other_store (i := 1) (hd5.set_ 0 (.int .i64 N)) (by decide) (.slice A' n c')
  have hbf : Below w.heap.size w ((w5.setCell ⟨w.heap.size + 1, 0, none⟩ (.int .i64 N)).setCell ⟨w.heap.size + 1, 1, none⟩ (.slice A' n c')) := ((hbel.trans ((Below.alloc_drew_ W0 _ hb5).mono hbel.size)).setCell (by simp) _).setCell (by simp) _
  go_wp2
  generalize (w5.setCell ⟨w.heap.size + 1, 0, none⟩ (.int .i64 N)).setCell ⟨w.heap.size + 1, 1, none⟩ (.slice A' n c') = Wf at hfin hyf hof hbf ⊢
  refine bodyPost_ret (v := .agg #[.int .i64 N, .slice A' n c']) ?_ rfl ?_
  · simp [results, Try.results89, go_sem, hyf]
  have e := hl.out
  subst e
  exact ⟨A', c', rfl, hof.more hbel.size, hbf⟩
theorem copyGraph_any (N : Int) (A : Option Addr) (n c : Nat) (X : List Int) (w : World) (hX : RI w A n X) (hn : n ≤ 1048576) :
    Calls Try.prog 89 #[.agg #[.int .i64 N, .slice A n c]] w (GivesG N X w) := by
  rcases A with _ | ad
  · obtain ⟨rfl, rfl⟩ := hX.none_
    exact copyGraph_none N c w
  · exact copyGraph_some N ad n c X w hX hn
theorem grown_trans13 {a w w' : World} {row : Option Nat} (h : a.grownBy w row) (k : w.grownBy w' row) : a.grownBy w' row :=
  ⟨k.os.trans h.os, k.tape.trans h.tape, k.output.trans h.output, Nat.le_trans h.size k.size, fun i hi hr => (k.block i (Nat.lt_of_lt_of_le hi h.size) hr).trans (h.block i hi hr)⟩
set_option maxRecDepth 100000 in
set_option maxHeartbeats 1000000 in
theorem flip_any (N : Int) {gH n d v x base : Nat} {Q : List Nat} {w : World} (hO : OwnI w base (some ⟨gH, 0, none⟩) n d (ints Q)) (h : GOk n Q) (hv : v < n) (hx : x < n) (e : edge Q v x = true) :
    Calls Try.prog 91 #[.agg #[.int .i64 N, .slice (some ⟨gH, 0, none⟩) n d], .int .i64 v, .int .i64 x] w fun e w' => e = .returned (.tuple #[]) ∧ OwnI w' base (some ⟨gH, 0, none⟩) n d (ints (delE Q v x)) ∧ w.grownBy w' (some gH) := by
  have h7 := h.le
  have hne := h.ne_of e
  have hgl := (hO.block gH rfl).2
  have hbk := Blk.new w 27 #[.int .i64 N, .slice (some ⟨gH, 0, none⟩) n d]
  have hO1 := hO.alloc (.cells #[.int .i64 N, .slice (some ⟨gH, 0, none⟩) n d] 27)
  have hU1 : Up w (w.alloc (.cells #[.int .i64 N, .slice (some ⟨gH, 0, none⟩) n d] 27)) := by go_grown
  have hyo := hbk.two
  have hc1 := hO1.nat hv
  have hf1 := hO1.frz v
  have hs1 := shl_p2 (k := x) (by omega)
  have hs1I : IntKind.i64.wrap ((2 : Int) ^ x) = ((p2 x : Nat) : Int) := by rw [IntWalk.i64_left]; exact hs1
  have hs2 := shl_p2 (k := v) (by omega)
  have hs2I : IntKind.i64.wrap ((2 : Int) ^ v) = ((p2 v : Nat) : Int) := by rw [IntWalk.i64_left]; exact hs2
  have hpx : p2 x < 128 := Nat.pow_lt_pow_right (by omega) (by omega : x < 7)
  have hpv : p2 v < 128 := Nat.pow_lt_pow_right (by omega) (by omega : v < 7)
  have hx1 := i64_xor_nat (nb Q v) (p2 x) (by have := h.nb7 v; omega) (by omega)
  have hx2 := i64_xor_nat (nb Q x) (p2 v) (by have := h.nb7 x; omega) (by omega)
  rw [show nb Q v ^^^ p2 x = dif (nb Q v) (2 ^ x) from xor_dif e] at hx1
  rw [show nb Q x ^^^ p2 v = dif (nb Q x) (2 ^ v) from xor_dif (by rw [h.sym]; exact e)] at hx2
  have hD := Lib.hid (show (Q.set v (dif (nb Q v) (2 ^ x))).set x (dif (nb Q x) (2 ^ v)) = delE Q v x from rfl)
  obtain ⟨W, hW⟩ : ∃ W, W = w.alloc (.cells #[.int .i64 N, .slice (some ⟨gH, 0, none⟩) n d] 27) := ⟨_, rfl⟩
  have hgw : w.grownBy W (some gH) := by rw [hW]; exact World.grownBy_alloc w _ _
  rw [← hW] at hbk hO1 hU1 hyo hc1 hf1
  go_enter Try.func91, Try.ntmps91
  go_wp2_with fail
  rw [← hW]
  clear hW
  obtain ⟨y1, hy1⟩ : ∃ y1, y1 = dif (nb Q v) (2 ^ x) := ⟨_, rfl⟩
  obtain ⟨y2, hy2⟩ : ∃ y2, y2 = dif (nb Q x) (2 ^ v) := ⟨_, rfl⟩
  rw [← hy1] at hx1 hD
  rw [← hy2] at hx2 hD
  have hcx := hO1.nat hx
  have hne2 := Lib.hid (nb_set' (o := Q) (x := v) (y := y1) (j := x) (by rw [h.len]; exact hv))
  rw [if_neg (fun k => hne k.symm)] at hne2
  obtain ⟨rv, hrv⟩ : ∃ rv, rv = nb Q v := ⟨_, rfl⟩
  obtain ⟨rx, hrx⟩ : ∃ rx, rx = nb Q x := ⟨_, rfl⟩
  rw [← hrv] at hx1 hc1
  rw [← hrx] at hx2 hcx hne2
  clear hy1 hy2 hrv hrx
  go_still_tail 9, (by kernel_rfl)
  change wpList _ _ _ _ _ W.drew
  have hc1' : W.drew.cell? ⟨gH, v, none⟩ = some (.int .i64 (rv : Nat)) := hc1
  have hf1' : W.drew.frozen? ⟨gH, v, none⟩ = false := hf1
  have hO2 := (hO1.putNat v y1).drew
  have hbk2 := (hbk.far (p := ⟨gH, v, none⟩) (by simp; omega) (.int .i64 (y1 : Int))).drew
  have hg2 := grown_drew (grown_setCell W ⟨gH, v, none⟩ (.int .i64 (y1 : Int)))
  go_wp2_with fail
  obtain ⟨W2, hW2⟩ : ∃ W2, W2 = (W.setCell ⟨gH, v, none⟩ (.int .i64 (y1 : Int))).drew := ⟨_, rfl⟩
  rw [← hW2] at hO2 hbk2 hg2
  rw [← hW2]
  clear hW2 hc1 hf1 hc1' hf1' hyo hcx
  have hyo2 := hbk2.two
  have hc2 := hO2.nat hx
  rw [hne2] at hc2
  have hf2 := hO2.frz x
  go_still_tail 9, (by kernel_rfl)
  change wpList _ _ _ _ _ W2.drew
  have hc2' : W2.drew.cell? ⟨gH, x, none⟩ = some (.int .i64 (rx : Nat)) := hc2
  have hf2' : W2.drew.frozen? ⟨gH, x, none⟩ = false := hf2
  have hO3 := (hO2.putNat x y2).drew
  have hg3 := grown_drew (grown_setCell W2 ⟨gH, x, none⟩ (.int .i64 (y2 : Int)))
  go_wp2_with fail
  go_end0
  exact ⟨rfl, by rw [← hD.out]; exact hO3, grown_trans13 (grown_trans13 hgw hg2) hg3⟩
end Go.Proofs.Ytlcmfangecbdgaa
