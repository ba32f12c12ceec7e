/- Walks of chapter 2: the program's copy of a graph. -/
import Derived.Test.YthncdjcmlpiebaaW2b
import Derived.Test.YthncdjcmlpiebaaW3A
import Derived.StillTailTactics
import Derived.Deep.Upon
namespace Go.Proofs.Ythncdjcmlpiebaa
open Go.RowKit
set_option maxHeartbeats 1000000 in
theorem copyGraph_own (N : Int) (ad : Addr) (n c : Nat) (X : List Int) (w : World) (hX : RI w (some ad) n X) (hn : n ≤ 1048576) :
    Calls Try.prog 79 #[.agg #[.int .i64 N, .slice (some ad) n c]] w fun e w' => ∃ A' c', e = .returned (.agg #[.int .i64 N, .slice A' n c']) ∧ OwnI w' w.heap.size A' n c' X ∧ Below w.heap.size w w' := by
  have hl := Lib.hid hX.1
  have hX2 : RI ((w.alloc (.cells #[.int .i64 N, .slice (some ad) n c] 26)).alloc (.cells #[.int .i64 0, .slice none 0 0] 26)) (some ad) n X := hX.up (by go_grown)
  have hb0 := (Blk.new w 26 #[.int .i64 N, .slice (some ad) n c]).alloc (.cells #[.int .i64 0, .slice none 0 0] 26)
  have hb2 := Blk.new_at (w := w.alloc (.cells #[.int .i64 N, .slice (some ad) n c] 26)) (t := 26) (cs := #[.int .i64 0, .slice none 0 0]) (g := w.heap.size + 1) (by simp)
  have hbel : Below w.heap.size w ((w.alloc (.cells #[.int .i64 N, .slice (some ad) n c] 26)).alloc (.cells #[.int .i64 0, .slice none 0 0] 26)) := by go_grown
  go_enter Try.func79, Try.ntmps79
  go_wp2_with fail
  obtain ⟨W0, hW0⟩ : ∃ W0, W0 = (w.alloc (.cells #[.int .i64 N, .slice (some ad) n c] 26)).alloc (.cells #[.int .i64 0, .slice none 0 0] 26) := ⟨_, rfl⟩
  rw [← hW0] at hX2 hb0 hb2 hbel
  rw [← hW0]
  clear hW0
  have hl0 := hb0.lt
  have hl2 := hb2.lt
  have hown0 := OwnI.made (base := W0.heap.size) W0.drew (Nat.le_refl _)
  go_region_held3 (fun w' => w'.cell? ⟨w.heap.size, 0, none⟩ = some (.int .i64 N) ∧ w'.cell? ⟨w.heap.size, 1, none⟩ = some (.slice (some ad) n c))
    (first | exact (hb0.drew.alloc _).two | exact hb0.drew.two | exact hc5.two | exact ((hc5.far (by simp) _).far (by simp) _).two)
    (first | (refine step_append_new rfl (.tmp 5) (.tmp 7) rfl rfl hown0 rfl (hX2.drew.alloc _) hn (by simp) ?_; intro A' c' w5 hown5 hb5 hg5; have hc5 := (hb0.drew.alloc (.cells #[] 3)).below hb5 hl0; have hd5 := (hb2.drew.alloc (.cells #[] 3)).below hb5 hl2; have e5 := hd5.two; have f5 := hd5.frozen 0; have g5 := hd5.frozen 1))
  have hfin := (hd5.set_ 0 (.int .i64 N)).set_ 1 (.slice A' n c')
  have hyf := hfin.two
  have hof := (hown5.other_store (i := 0) hd5 (by decide) (.int .i64 N)).other_store (i := 1) (hd5.set_ 0 (.int .i64 N)) (by decide) (.slice A' n c')
  have hbf : Below w.heap.size w ((w5.setCell ⟨w.heap.size + 1, 0, none⟩ (.int .i64 N)).setCell ⟨w.heap.size + 1, 1, none⟩ (.slice A' n c')) := ((hbel.trans ((Below.alloc_drew_ W0 _ hb5).mono hbel.size)).setCell (by simp) _).setCell (by simp) _
  go_wp2
  generalize (w5.setCell ⟨w.heap.size + 1, 0, none⟩ (.int .i64 N)).setCell ⟨w.heap.size + 1, 1, none⟩ (.slice A' n c') = Wf at hfin hyf hof hbf ⊢
  refine bodyPost_ret (v := .agg #[.int .i64 N, .slice A' n c']) ?_ rfl ?_
  · simp [results, Try.results79, go_sem, hyf]
  have e := hl.out
  subst e
  exact ⟨A', c', rfl, hof.more hbel.size, hbf⟩
end Go.Proofs.Ythncdjcmlpiebaa
