/- Walks of chapter 2: a copy of a graph, an edge more. -/
import Derived.Test.YtlcmfangecbdgaaNat
import Derived.Test.YtlcmfangecbdgaaW3b
import Derived.Test.YtlcmfangecbdgaaW7c
import Derived.Test.YtlcmfangecbdgaaGives
import Derived.Test.YtlcmfangecbdgaaPure2b
namespace Go.Proofs.Ytlcmfangecbdgaa
open Go.RowKit
theorem Below.alloc_drew_ (W : World) (o : Obj) {w : World} (h : Below W.heap.size (W.alloc o).drew w) : Below W.heap.size W w := ((Below.refl W.heap.size W).alloc (Nat.le_refl _) o).drew.trans h
/-- A graph of the call's own. -/
def GivesG (N : Int) (xs : List Int) (w : World) (e : Ending) (w' : World) : Prop :=
  ∃ A c, e = .returned (.agg #[.int .i64 N, .slice A xs.length c]) ∧ OwnI w' w.heap.size A xs.length c xs ∧ Below w.heap.size w w'
set_option maxHeartbeats 1000000 in
theorem l2Copy_any (N : Int) (ad : Addr) (n c : Nat) (X : List Int) (w : World) (hX : RI w (some ad) n X) (hn : n ≤ 1048576) :
    Calls Try.prog 86 #[.agg #[.int .i64 N, .slice (some ad) n c]] w (GivesG N X w) := by
  have hl := Lib.hid hX.1
  have hX2 : RI ((w.alloc (.cells #[.int .i64 N, .slice (some ad) n c] 27)).alloc (.cells #[.int .i64 0, .slice none 0 0] 27)) (some ad) n X := hX.up (by go_grown)
  have hb0 := (Blk.new w 27 #[.int .i64 N, .slice (some ad) n c]).alloc (.cells #[.int .i64 0, .slice none 0 0] 27)
  have hb2 := Blk.new_at (w := w.alloc (.cells #[.int .i64 N, .slice (some ad) n c] 27)) (t := 27) (cs := #[.int .i64 0, .slice none 0 0]) (g := w.heap.size + 1) (by simp)
  have hbel : Below w.heap.size w ((w.alloc (.cells #[.int .i64 N, .slice (some ad) n c] 27)).alloc (.cells #[.int .i64 0, .slice none 0 0] 27)) := by go_grown
  go_enter Try.func86, Try.ntmps86
  go_wp2_with fail
  obtain ⟨W0, hW0⟩ : ∃ W0, W0 = (w.alloc (.cells #[.int .i64 N, .slice (some ad) n c] 27)).alloc (.cells #[.int .i64 0, .slice none 0 0] 27) := ⟨_, rfl⟩
  rw [← hW0] at hX2 hb0 hb2 hbel
  rw [← hW0]
  clear hW0
  have hl0 := hb0.lt
  have hl2 := hb2.lt
  have hown0 := OwnI.made (base := W0.heap.size) W0.drew (Nat.le_refl _)
  go_region_held3 (fun w' => w'.cell? ⟨w.heap.size, 0, none⟩ = some (.int .i64 N) ∧ w'.cell? ⟨w.heap.size, 1, none⟩ = some (.slice (some ad) n c))
    (first | exact (hb0.drew.alloc _).two | exact hb0.drew.two | exact hc5.two | exact ((hc5.far (by simp) _).far (by simp) _).two)
    (first | (refine step_append_new rfl (.tmp 5) (.tmp 7) rfl rfl hown0 rfl (hX2.drew.alloc _) hn (by simp) ?_; intro A' c' w5 hown5 hb5 hg5; have hc5 := (hb0.drew.alloc (.cells #[] 3)).below hb5 hl0; have hd5 := (hb2.drew.alloc (.cells #[] 3)).below hb5 hl2; have e5 := hd5.two; have f5 := hd5.frozen 0; have g5 := hd5.frozen 1))
  have hfin := (hd5.set_ 0 (.int .i64 N)).set_ 1 (.slice A' n c')
  have hyf := hfin.two
  have hof := (hown5.other_store (i := 0) hd5 (by decide) (.int .i64 N)).other_store (i := 1) (hd5.set_ 0 (.int .i64 N)) (by decide) (.slice A' n c')
  have hbf : Below w.heap.size w ((w5.setCell ⟨w.heap.size + 1, 0, none⟩ (.int .i64 N)).setCell ⟨w.heap.size + 1, 1, none⟩ (.slice A' n c')) := ((hbel.trans ((Below.alloc_drew_ W0 _ hb5).mono hbel.size)).setCell (by simp) _).setCell (by simp) _
  go_wp2
  generalize (w5.setCell ⟨w.heap.size + 1, 0, none⟩ (.int .i64 N)).setCell ⟨w.heap.size + 1, 1, none⟩ (.slice A' n c') = Wf at hfin hyf hof hbf ⊢
  refine bodyPost_ret (v := .agg #[.int .i64 N, .slice A' n c']) ?_ rfl ?_
  · simp [results, Try.results86, go_sem, hyf]
  have e := hl.out
  subst e
  exact ⟨A', c', rfl, hof.more hbel.size, hbf⟩
theorem l2Copy_nat (ad : Addr) (n c : Nat) (Q : List Nat) (w : World) (hX : RI w (some ad) n (ints Q)) (hl : Q.length = n) (h0 : 0 < n) (hn : n ≤ 1048576) :
    Calls Try.prog 86 #[.agg #[.int .i64 n, .slice (some ad) n c]] w fun e w' => ∃ g d, e = .returned (.agg #[.int .i64 n, .slice (some ⟨g, 0, none⟩) n d]) ∧ OwnI w' w.heap.size (some ⟨g, 0, none⟩) n d (ints Q) ∧ Below w.heap.size w w' ∧ w.heap.size ≤ g := by
  refine (l2Copy_any n ad n c (ints Q) w hX hn).mono ?_
  rintro e w' ⟨B, d, rfl, hown, hb⟩
  have e : (ints Q).length = n := by rw [ints_len, hl]
  rw [e] at hown ⊢
  obtain ⟨g, rfl⟩ := hown.form h0
  exact ⟨g, d, rfl, hown, hb, (hown.block g rfl).1⟩
set_option maxHeartbeats 1000000 in
theorem l2Pair_yes {A : Option Addr} {n c v x : Nat} {Q : List Nat} {w : World} (hX : RI w A n (ints Q)) (h : GOk n Q) (hv : v < n) (hx : x < n) (hne : v ≠ x) :
    Calls Try.prog 103 #[.agg #[.int .i64 n, .slice A n c], .int .i64 v, .int .i64 x] w fun e w' => e = .returned (.bool true) ∧ Below w.heap.size w w' := by
  have hn7 := h.le
  have hne' : ((v : Int) != (x : Int)) = true := by rw [bne_iff_ne]; omega
  clear hne
  go_enter Try.func103, Try.ntmps103
  go_wp2_with fail
  refine (specIsGraph_is (hX.up (by go_grown)) (by omega) h.is).mono ?_
  rintro e w1 ⟨rfl, hb1⟩
  have hU1 : Up w w1 := Up.then_ (by go_grown) hb1
  have hblk := (Blk.new w 27 #[.int .i64 n, .slice A n c]).up hb1
  have hyb := hblk.two
  go_wp2
  go_ret
  exact ⟨rfl, hU1⟩
theorem add_0 (g k : Nat) : (⟨g, 0, none⟩ : Addr).add k = ⟨g, k, none⟩ := by unfold Addr.add; split <;> simp_all
theorem OwnI.nat {w : World} {base g n c k : Nat} {Q : List Nat} (h : OwnI w base (some ⟨g, 0, none⟩) n c (ints Q)) (hk : k < n) : w.cell? ⟨g, k, none⟩ = some (.int .i64 (nb Q k)) := by
  obtain ⟨ad, e, hc⟩ := h.ri.nb_at hk
  injection e with e
  subst e
  rw [add_0] at hc
  exact hc
theorem givesGB_of {w w' : World} {N : Int} {A : Option Addr} {n d base : Nat} {Q : List Nat} {b : Bool} (hl : Q.length = n) (hown : OwnI w' base A n d (ints Q)) (hbase : w.heap.size ≤ base) (hb : Below w.heap.size w w') :
    GivesGB N (ints Q) b w (.returned (.tuple #[.agg #[.int .i64 N, .slice A n d], .bool b])) w' := by
  subst hl
  have e := ints_len Q
  refine ⟨A, d, by rw [e], (hown.cast e.symm rfl).more hbase, hb⟩
theorem OwnI.putNat {w : World} {base g n c : Nat} {Q : List Nat} (h : OwnI w base (some ⟨g, 0, none⟩) n c (ints Q)) (k y : Nat) : OwnI (w.setCell ⟨g, k, none⟩ (.int .i64 (y : Int))) base (some ⟨g, 0, none⟩) n c (ints (Q.set k y)) := by
  have := (h.put k (y : Int)).1
  have e : (ints Q).set k (y : Int) = ints (Q.set k y) := by simp [ints]
  rw [e] at this
  exact this
theorem OwnI.frz {w : World} {base g n c : Nat} {xs : List Int} (h : OwnI w base (some ⟨g, 0, none⟩) n c xs) (k : Nat) : w.frozen? ⟨g, k, none⟩ = false := World.ownsRow.frozenAt h k