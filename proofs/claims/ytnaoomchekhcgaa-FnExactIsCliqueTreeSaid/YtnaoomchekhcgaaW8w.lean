/- Walks of chapter 8: TreeSeparators. -/
import Derived.Test.YtnaoomchekhcgaaW8v
import Derived.Test.YtnaoomchekhcgaaPure8t
import Derived.Test.YtnaoomchekhcgaaW8t
import Derived.Test.YtnaoomchekhcgaaW3b
namespace Go.Proofs.Ytnaoomchekhcgaa
open Go.RowKit
/-- What bag i has in common with its parent. -/
def sepAt (b : List Nat) (P : List Int) (i : Nat) : Nat := nb b i &&& nb b (P.getD i 0).toNat
def sepK (b : List Nat) (P : List Int) : Nat → List Int
  | 0 => []
  | k + 1 => sepK b P k ++ [((sepAt b P (k + 1) : Nat) : Int)]
theorem sepK_len (b : List Nat) (P : List Int) : ∀ k, (sepK b P k).length = k
  | 0 => rfl
  | k + 1 => by rw [sepK, List.length_append, sepK_len b P k]; rfl
theorem sepK_at (b : List Nat) (P : List Int) {j : Nat} : ∀ k, j < k → (sepK b P k).getD j 0 = ((sepAt b P (j + 1) : Nat) : Int)
  | 0, h => by omega
  | k + 1, h => by
    rw [sepK]
    rcases Nat.lt_succ_iff_lt_or_eq.1 h with h' | rfl
    · have := sepK_at b P k h'
      rw [List.getD_eq_getElem?_getD, List.getElem?_append_left (by rw [sepK_len]; exact h'), ← List.getD_eq_getElem?_getD, this]
    · rw [List.getD_eq_getElem?_getD, List.getElem?_append_right (by rw [sepK_len]; exact Nat.le_refl _), sepK_len]
      simp
def treeSeps (L P : List Int) : List Int := if isTree L P then Lib.compact (sortI (sepK (L.map Int.toNat) P (L.length - 1))) else []
theorem treeSeps_no {L P : List Int} (h : isTree L P = false) : treeSeps L P = [] := by rw [treeSeps, h]; rfl
theorem treeSeps_ok {b : List Nat} {P : List Int} (h : isTree (ints b) P = true) : treeSeps (ints b) P = Lib.compact (sortI (sepK b P (b.length - 1))) := by
  rw [treeSeps, if_pos h, ints_len]
  have : (ints b).map Int.toNat = b := by simp [ints, List.map_map, Function.comp_def]
  rw [this]
theorem treeSeps_len (L P : List Int) : (treeSeps L P).length ≤ 1048576 := by
  rcases isTree_cases L P with h | ⟨h, b, rfl, _, _, h20, _⟩
  · rw [treeSeps_no h]; simp
  · rw [treeSeps_ok h]
    have h1 := compact_le (sortI (sepK b P (b.length - 1)))
    rw [sortI_len, sepK_len] at h1
    omega
/-- A parent of a tree as a number. -/
theorem parent_nat {b : List Nat} {P : List Int} (h : isTree (ints b) P = true) {i : Nat} (h0 : 0 < i) (hi : i < b.length) : ∃ q : Nat, P.getD i 0 = q ∧ q < i ∧ (P.getD i 0).toNat = q := by
  have := (tOk_pos h0).1 ((isTree_spec h).2.2.2 i (by rw [ints_len]; exact hi))
  exact ⟨(P.getD i 0).toNat, by omega, by omega, rfl⟩
theorem keepSep {w0 w w' : World} {B j q n ca cb base c3 k : Nat} {a r : Addr} {A3 : Option Addr} {xs : List Int} {x y z : Value} (hown : OwnI w base A3 k c3 xs) (hg : w.grownBy w' (Value.slice A3 k c3).ownBlock) (hbk : Blk w B 33 #[.slice (some a) n ca, .slice (some r) n cb]) (hb : Below base w0 w')
    (ha : a.block < base) (hr : r.block < base) (hx : w0.cell? (a.add j) = some x) (hz : w0.cell? (r.add j) = some z) (hy : w0.cell? (a.add q) = some y) :
    w'.cell? ⟨B, 0, none⟩ = some (.slice (some a) n ca) ∧ w'.cell? ⟨B, 1, none⟩ = some (.slice (some r) n cb) ∧ w'.cell? (a.add j) = some x ∧ w'.cell? (r.add j) = some z ∧ w'.cell? (a.add q) = some y := by
  have h := (hown.keeps hg hbk (by decide)).two
  exact ⟨h.1, h.2, (hb.cell (p := a.add j) (by rw [block_of_add]; exact ha)).trans hx, (hb.cell (p := r.add j) (by rw [block_of_add]; exact hr)).trans hz, (hb.cell (p := a.add q) (by rw [block_of_add]; exact ha)).trans hy⟩
set_option maxRecDepth 100000 in
set_option maxHeartbeats 4000000 in
theorem implTreeSeparators_any (A B : Option Addr) (m m' ca cb : Nat) (L R : List Int) (w : World) (hL : RI w A m L) (hR : RI w B m' R) (hm : m ≤ 1048576) (hm' : m' ≤ 1048576) :
    Calls Try.prog 37 #[.agg #[.slice A m ca, .slice B m' cb]] w (GivesI (treeSeps L R) w) := by
  have hbk := Blk.new w 33 #[.slice A m ca, .slice B m' cb]
  have hU0 : Up w (w.alloc (.cells #[.slice A m ca, .slice B m' cb] 33)) := by go_grown
  have hown0 := OwnI.made_at (base := w.heap.size) (w := w.alloc (.cells #[.slice A m ca, .slice B m' cb] 33)) (g := w.heap.size + 1) (by simp) (by omega)
  rcases isTree_cases L R with hg | ⟨hg, b, rfl, hb128, hb1, hb20, hRl⟩
  · have Hg := Lib.hid hg
    rw [treeSeps_no hg]
    clear hg
    go_enter Try.func37, Try.ntmps37
    go_wp2_with fail
    refine (implIsTree_is (hL.up (by go_grown)) (hR.up (by go_grown)) hm hm' Hg.out).mono ?_
    rintro e w1 ⟨rfl, hb1⟩
    have hU1 : Up w w1 := Up.then_ (by go_grown) hb1
    replace hown0 := hown0.up hb1
    go_wp2
    go_ret
    exact ⟨_, _, rfl, hown0, hU1⟩
  · have Hg := Lib.hid hg
    have hmb : m = b.length := by rw [← hL.1, ints_len]
    subst hmb
    have hRl' : m' = b.length := by rw [← hR.1]; exact hRl
    subst hRl'
    have HP := Lib.hid (fun (i : Nat) (h0 : 0 < i) (hi : i < b.length) => parent_nat hg h0 hi)
    rw [treeSeps_ok hg]
    have HB := Lib.hid hb128
    clear hg hRl hb128
    go_enter Try.func37, Try.ntmps37
    go_wp2_with fail
    refine (implIsTree_is (hL.up (by go_grown)) (hR.up (by go_grown)) hm hm' Hg.out).mono ?_
    rintro e w1 ⟨rfl, hb1'⟩
    have hU1 : Up w w1 := Up.then_ (by go_grown) hb1'
    replace hown0 := hown0.up hb1'
    replace hbk := (hbk.alloc (.cells #[] 3)).up hb1'
    clear hU0
    go_wp2_with fail
    go_loopw [3, 4] (fun o i wr => ∃ (k j : Nat) (A3 : Option Addr) (c3 : Nat), Hid (j = k + 1) ∧ j ≤ b.length ∧ i = .int .i64 (j : Int) ∧ o = .slice A3 k c3 ∧ OwnI wr w.heap.size A3 k c3 (sepK b R k) ∧ Blk wr w.heap.size 33 #[.slice A b.length ca, .slice B b.length cb] ∧ Below w.heap.size w wr) (fun _ i _ => b.length - (intOf i).toNat)
    case atStart => exact ⟨0, 1, _, _, rfl, hb1, rfl, rfl, hown0, hbk, hU1⟩
    case round =>
      clear hown0 hbk
      obtain ⟨k, j, A3, c3, hjk, hj, rfl, rfl, hown, hbk, hb⟩ := hrel
      obtain ⟨wo, rfl⟩ : ∃ wo : World, wo = wr := ⟨_, rfl⟩
      have hy := hbk.two
      have hl := hbk.lt
      by_cases hkt : j < b.length
      · obtain ⟨q, hq, hqk, hqn⟩ := HP.out j (by have := hjk.out; omega) hkt
        obtain ⟨a, rfl, hca⟩ := (hL.up hb).ints_at hkt
        obtain ⟨a', e, hcq⟩ := (hL.up hb).ints_at (show q < b.length by omega)
        injection e with e
        subst e
        obtain ⟨r, rfl, hrb, hcr⟩ := (hR.up hb).at_ hkt
        have hab : a.block < wo.heap.size := by have := World.block_lt_of_cell? wo _ hca; rwa [block_of_add] at this
        rw [hq] at hcr
        have hx7 := HB.out j
        have hy7 := HB.out q
        have HS := Lib.hid (show sepK b R (k + 1) = sepK b R k ++ [((nb b j &&& nb b q : Nat) : Int)] by rw [sepK, sepAt, ← hjk.out, hqn])
        obtain ⟨x, hx⟩ : ∃ x, x = nb b j := ⟨_, rfl⟩
        obtain ⟨y, hye⟩ : ∃ y, y = nb b q := ⟨_, rfl⟩
        rw [← hx] at hx7 hca HS
        rw [← hye] at hy7 hcq HS
        have hand := i64_and7 hx7 hy7
        obtain ⟨z, hz⟩ : ∃ z, z = x &&& y := ⟨_, rfl⟩
        rw [← hz] at hand HS
        clear hx hye hz hq hqn hx7 hy7
        have hqm : q < b.length := by omega
        have hba0 : a.block < w.heap.size := by
          obtain ⟨ad, e, h, _⟩ := hL.at_ hkt
          injection e with e; rw [e]; exact h
        have hbr0 : r.block < w.heap.size := by
          obtain ⟨ad, e, h, _⟩ := hR.at_ hkt
          injection e with e; rw [e]; exact h
        have hra : r.block < wo.heap.size := hrb
        have hba : a.block < w.heap.size := hba0
        have hbr : r.block < w.heap.size := hbr0
        have hbw : Below w.heap.size wo ((wo.alloc (.cells #[.int .i64 (z : Int)] 3)).drew) := by go_grown
        have hwo : w.heap.size ≤ wo.heap.size := hb.size
        have hownB := (hown.alloc (.cells #[.int .i64 (z : Int)] 3)).drew
        have hriB : RI ((wo.alloc (.cells #[.int .i64 (z : Int)] 3)).drew) (some ⟨wo.heap.size, 0, none⟩) 1 [(z : Int)] := ((Blk.new wo 3 #[.int .i64 (z : Int)]).ri (xs := [(z : Int)]) rfl).drew
        have hbkB := (hbk.alloc (.cells #[.int .i64 (z : Int)] 3)).drew
        have hk1 : k + 1 ≤ 1048576 := by have := hjk.out; omega
        have hy0 := hy.1
        have hy1 := hy.2
        go_wp2
        have hV0 : Up wo wo.drew := (Up.refl _).drew
        refine wp_region_held_drew (S := (fun w' => w'.cell? (⟨w.heap.size, 0, none⟩) = some (.slice (some a) b.length ca) ∧ w'.cell? (⟨w.heap.size, 1, none⟩) = some (.slice (some r) b.length cb) ∧ w'.cell? (a.add j) = some (.int .i64 x) ∧ w'.cell? (r.add j) = some (.int .i64 q) ∧ w'.cell? (a.add q) = some (.int .i64 y))) (by kernel_rfl) (by exact ⟨(hV0.cell (by first | assumption | (rw [block_of_add]; assumption))).trans (by assumption), (hV0.cell (by first | assumption | (rw [block_of_add]; assumption))).trans (by assumption), (hV0.cell (by first | assumption | (rw [block_of_add]; assumption))).trans (by assumption), (hV0.cell (by first | assumption | (rw [block_of_add]; assumption))).trans (by assumption), (hV0.cell (by first | assumption | (rw [block_of_add]; assumption))).trans (by assumption)⟩) (fun hHeld => ?_)
        refine wpAnyH_take (i := 0) (v := ?_) rfl (by kernel_rfl) (by kernel_rfl) (by kernel_rfl) (fun _ _ _ h => h) (Or.inl ⟨by rfl, ?_⟩) (by assumption) ?_
        rotate_left
        · (intro w' hSw; go_simp; try with_reducible rfl)
        (try simp only [List.getElem_toArray]); (try simp only [List.getElem_cons_succ]); (try simp only [List.getElem_cons_zero]); (try simp only [Act.put]); (try simp only [List.setIfInBounds_toArray]); (try simp only [List.set_cons_succ]); (try simp only [List.set_cons_zero])
        refine wpAnyH_take (i := 1) (v := ?_) rfl (by kernel_rfl) (by kernel_rfl) (by kernel_rfl) (fun _ _ _ h => h) (Or.inl ⟨by rfl, ?_⟩) (by assumption) ?_
        rotate_left
        · (intro w' hSw; go_simp; try with_reducible rfl)
        (try simp only [List.getElem_toArray]); (try simp only [List.getElem_cons_succ]); (try simp only [List.getElem_cons_zero]); (try simp only [Act.put]); (try simp only [List.setIfInBounds_toArray]); (try simp only [List.set_cons_succ]); (try simp only [List.set_cons_zero])
        refine wpAnyH_take (i := 2) (v := ?_) rfl (by kernel_rfl) (by kernel_rfl) (by kernel_rfl) (fun _ _ _ h => h) (Or.inl ⟨by rfl, ?_⟩) (by assumption) ?_
        rotate_left
        · (intro w' hSw; go_simp; try with_reducible rfl)
        (try simp only [List.getElem_toArray]); (try simp only [List.getElem_cons_succ]); (try simp only [List.getElem_cons_zero]); (try simp only [Act.put]); (try simp only [List.setIfInBounds_toArray]); (try simp only [List.set_cons_succ]); (try simp only [List.set_cons_zero])
        refine wpAnyH_take (i := 3) (v := ?_) rfl (by kernel_rfl) (by kernel_rfl) (by kernel_rfl) (fun _ _ _ h => h) (Or.inl ⟨by rfl, ?_⟩) (by assumption) ?_
        rotate_left
        · (intro w' hSw; go_simp; try with_reducible rfl)
        (try simp only [List.getElem_toArray]); (try simp only [List.getElem_cons_succ]); (try simp only [List.getElem_cons_zero]); (try simp only [Act.put]); (try simp only [List.setIfInBounds_toArray]); (try simp only [List.set_cons_succ]); (try simp only [List.set_cons_zero])
        refine wpAnyH_take (i := 4) (v := ?_) rfl (by kernel_rfl) (by kernel_rfl) (by kernel_rfl) (fun _ _ _ h => h) (Or.inl ⟨by rfl, ?_⟩) (by assumption) ?_
        rotate_left
        · (intro w' hSw; go_simp; try with_reducible rfl)
        (try simp only [List.getElem_toArray]); (try simp only [List.getElem_cons_succ]); (try simp only [List.getElem_cons_zero]); (try simp only [Act.put]); (try simp only [List.setIfInBounds_toArray]); (try simp only [List.set_cons_succ]); (try simp only [List.set_cons_zero])
        refine wpAnyH_take (i := 5) (v := ?_) rfl (by kernel_rfl) (by kernel_rfl) (by kernel_rfl) (fun _ _ _ h => h) (Or.inl ⟨by rfl, ?_⟩) (by assumption) ?_
        rotate_left
        · (intro w' hSw; go_simp; try with_reducible rfl)
        (try simp only [List.getElem_toArray]); (try simp only [List.getElem_cons_succ]); (try simp only [List.getElem_cons_zero]); (try simp only [Act.put]); (try simp only [List.setIfInBounds_toArray]); (try simp only [List.set_cons_succ]); (try simp only [List.set_cons_zero])
        refine wpAnyH_take (i := 6) (v := ?_) rfl (by kernel_rfl) (by kernel_rfl) (by kernel_rfl) (fun _ _ _ h => h) (Or.inl ⟨by rfl, ?_⟩) (by assumption) ?_
        rotate_left
        · (intro w' hSw; go_simp; try with_reducible rfl)
        (try simp only [List.getElem_toArray]); (try simp only [List.getElem_cons_succ]); (try simp only [List.getElem_cons_zero]); (try simp only [Act.put]); (try simp only [List.setIfInBounds_toArray]); (try simp only [List.set_cons_succ]); (try simp only [List.set_cons_zero])
        refine wpAnyH_take (i := 7) (v := ?_) rfl (by kernel_rfl) (by kernel_rfl) (by kernel_rfl) (fun _ _ _ h => h) (Or.inl ⟨by rfl, ?_⟩) (by assumption) ?_
        rotate_left
        · (intro w' hSw; go_simp; try with_reducible rfl)
        (try simp only [List.getElem_toArray]); (try simp only [List.getElem_cons_succ]); (try simp only [List.getElem_cons_zero]); (try simp only [Act.put]); (try simp only [List.setIfInBounds_toArray]); (try simp only [List.set_cons_succ]); (try simp only [List.set_cons_zero])
        refine wpAnyH_take (i := 8) (v := ?_) rfl (by kernel_rfl) (by kernel_rfl) (by kernel_rfl) (fun _ _ _ h => h) (Or.inl ⟨by rfl, ?_⟩) (by assumption) ?_
        rotate_left
        · (intro w' hSw; go_simp; try with_reducible rfl)
        (try simp only [List.getElem_toArray]); (try simp only [List.getElem_cons_succ]); (try simp only [List.getElem_cons_zero]); (try simp only [Act.put]); (try simp only [List.setIfInBounds_toArray]); (try simp only [List.set_cons_succ]); (try simp only [List.set_cons_zero])
        refine wpAnyH_take (i := 9) (v := ?_) rfl (by kernel_rfl) (by kernel_rfl) (by kernel_rfl) (fun _ _ _ h => h) (Or.inl ⟨by rfl, ?_⟩) (by assumption) ?_
        rotate_left
        · (intro w' hSw; go_simp; try with_reducible rfl)
        (try simp only [List.getElem_toArray]); (try simp only [List.getElem_cons_succ]); (try simp only [List.getElem_cons_zero]); (try simp only [Act.put]); (try simp only [List.setIfInBounds_toArray]); (try simp only [List.set_cons_succ]); (try simp only [List.set_cons_zero])
        refine wpAnyH_take (i := 10) (v := ?_) rfl (by kernel_rfl) (by kernel_rfl) (by kernel_rfl) (fun _ _ _ h => h) (Or.inl ⟨by rfl, ?_⟩) (by assumption) ?_
        rotate_left
        · (intro w' hSw; go_simp; try with_reducible rfl)
        (try simp only [List.getElem_toArray]); (try simp only [List.getElem_cons_succ]); (try simp only [List.getElem_cons_zero]); (try simp only [Act.put]); (try simp only [List.setIfInBounds_toArray]); (try simp only [List.set_cons_succ]); (try simp only [List.set_cons_zero])
        refine wpAnyH_take (i := 11) (v := ?_) rfl (by kernel_rfl) (by kernel_rfl) (by kernel_rfl) (fun _ _ _ h => h) (Or.inl ⟨by rfl, ?_⟩) (by assumption) ?_
        rotate_left
        · (intro w' hSw; go_simp; try with_reducible rfl)
        (try simp only [List.getElem_toArray]); (try simp only [List.getElem_cons_succ]); (try simp only [List.getElem_cons_zero]); (try simp only [Act.put]); (try simp only [List.setIfInBounds_toArray]); (try simp only [List.set_cons_succ]); (try simp only [List.set_cons_zero])
        refine wpAnyH_take (i := 12) (v := ?_) rfl (by kernel_rfl) (by kernel_rfl) (by kernel_rfl) (fun _ _ _ h => h) (Or.inl ⟨by rfl, ?_⟩) (by assumption) ?_
        rotate_left
        · (intro w' hSw; go_simp; try with_reducible rfl)
        (try simp only [List.getElem_toArray]); (try simp only [List.getElem_cons_succ]); (try simp only [List.getElem_cons_zero]); (try simp only [Act.put]); (try simp only [List.setIfInBounds_toArray]); (try simp only [List.set_cons_succ]); (try simp only [List.set_cons_zero])
        refine wpAnyH_take (i := 13) (v := ?_) rfl (by kernel_rfl) (by kernel_rfl) (by kernel_rfl) (fun _ _ _ h => h) (Or.inl ⟨by rfl, ?_⟩) (by assumption) ?_
        rotate_left
        · (intro w' hSw; go_simp; try with_reducible rfl)
        (try simp only [List.getElem_toArray]); (try simp only [List.getElem_cons_succ]); (try simp only [List.getElem_cons_zero]); (try simp only [Act.put]); (try simp only [List.setIfInBounds_toArray]); (try simp only [List.set_cons_succ]); (try simp only [List.set_cons_zero])
        refine wpAnyH_take (i := 14) (v := ?_) rfl (by kernel_rfl) (by kernel_rfl) (by kernel_rfl) (fun _ _ _ h => h) (Or.inl ⟨by rfl, ?_⟩) (by assumption) ?_
        rotate_left
        · (intro w' hSw; go_simp; try with_reducible rfl)
        (try simp only [List.getElem_toArray]); (try simp only [List.getElem_cons_succ]); (try simp only [List.getElem_cons_zero]); (try simp only [Act.put]); (try simp only [List.setIfInBounds_toArray]); (try simp only [List.set_cons_succ]); (try simp only [List.set_cons_zero])
        refine wpAnyH_take (i := 15) (v := ?_) rfl (by kernel_rfl) (by kernel_rfl) (by kernel_rfl) (fun _ _ _ h => h) (Or.inl ⟨by rfl, ?_⟩) (by assumption) ?_
        rotate_left
        · (intro w' hSw; go_simp; try with_reducible rfl)
        (try simp only [List.getElem_toArray]); (try simp only [List.getElem_cons_succ]); (try simp only [List.getElem_cons_zero]); (try simp only [Act.put]); (try simp only [List.setIfInBounds_toArray]); (try simp only [List.set_cons_succ]); (try simp only [List.set_cons_zero])
        refine wpAnyH_ready (rs := [16]) (by kernel_rfl) (by simp) ?_
        refine AllReadyH.cons rfl (fun K hK => ?_) AllReadyH.nil
        go_simp
        have hB16 : Up wo ((wo.alloc (.cells #[.int .i64 (z : Int)] 3)).drew) := by go_grown
        refine hK.out _ _ (by exact ⟨(hB16.cell (by first | assumption | (rw [block_of_add]; assumption))).trans (by assumption), (hB16.cell (by first | assumption | (rw [block_of_add]; assumption))).trans (by assumption), (hB16.cell (by first | assumption | (rw [block_of_add]; assumption))).trans (by assumption), (hB16.cell (by first | assumption | (rw [block_of_add]; assumption))).trans (by assumption), (hB16.cell (by first | assumption | (rw [block_of_add]; assumption))).trans (by assumption)⟩) (fun hHeldb16 => ?_)
        clear hK K
        (try simp only [List.getElem_toArray]); (try simp only [List.getElem_cons_succ]); (try simp only [List.getElem_cons_zero]); (try simp only [Act.put]); (try simp only [List.setIfInBounds_toArray]); (try simp only [List.set_cons_succ]); (try simp only [List.set_cons_zero])
        refine wpAnyH_ready (rs := [17]) (by kernel_rfl) (by simp) ?_
        refine AllReadyH.cons rfl (fun K hK => ?_) AllReadyH.nil
        refine step_append_own rfl (.tmp 17) (.tmp 33) rfl rfl hownB rfl hriB hk1 (by simp; omega) ?_
        intro A5 c5 w5 hown5 hb5 hg5
        have hA17 := keepSep hownB hg5 hbkB (hbw.trans hb5) hba hbr hca hcr hcq
        refine hK.out _ _ hA17 (fun hHelda17 => ?_)
        clear hK K
        (try simp only [List.getElem_toArray]); (try simp only [List.getElem_cons_succ]); (try simp only [List.getElem_cons_zero]); (try simp only [Act.put]); (try simp only [List.setIfInBounds_toArray]); (try simp only [List.set_cons_succ]); (try simp only [List.set_cons_zero])
        refine wpAnyH_take (i := 18) (v := ?_) rfl (by kernel_rfl) (by kernel_rfl) (by kernel_rfl) (fun _ _ _ h => h) (Or.inl ⟨by rfl, ?_⟩) (by assumption) ?_
        rotate_left
        · (intro w' hSw; go_simp; try with_reducible rfl)
        (try simp only [List.getElem_toArray]); (try simp only [List.getElem_cons_succ]); (try simp only [List.getElem_cons_zero]); (try simp only [Act.put]); (try simp only [List.setIfInBounds_toArray]); (try simp only [List.set_cons_succ]); (try simp only [List.set_cons_zero])
        refine wpAnyH_done (by kernel_rfl) ?_ _
        have hU1 := hV0
        have hbk5 := hownB.keeps hg5 hbkB (by decide)
        have hb5' : Below w.heap.size w w5 := hb.trans (hbw.trans hb5)
        have HJ2 := Lib.hid (show j + 1 = k + 1 + 1 by rw [hjk.out])
        clear hHeld hHeldb16 hHelda17 hA17 hB16 hV0 hU1 hownB hriB hbkB hy0 hy1 hown hbk hca hcq hcr hy
        go_wp2_with fail
        go_roundw
        case rel => exact ⟨k + 1, j + 1, A5, c5, HJ2.out, by omega, by go_num, rfl, by rw [HS.out]; exact hown5, hbk5, hb5'⟩
        case measure => simp [intOf]; omega
      · have hjb : j = b.length := by omega
        have HR := Lib.hid (show sepK b R (b.length - 1) = sepK b R k by rw [← hjb, hjk.out, Nat.add_sub_cancel])
        have hk1 : k ≤ 1048576 := by have := hjk.out; omega
        have hnot : ¬ j < b.length := hkt
        clear hjb
        go_wp2_with fail
        refine (sorted_any A3 k c3 _ wo hown.ri hk1).mono ?_
        rintro e w2 ⟨A2, c2, rfl, hown2, hb2⟩
        have hw2 : Below w.heap.size w w2 := hb.trans (hb2.mono hb.size)
        have hbs : w.heap.size ≤ wo.heap.size := hb.size
        rcases Nat.eq_zero_or_pos k with hk0 | hk0
        · have HZ := Lib.hid (show Lib.compact (sortI (sepK b R k)) = [] by
            apply List.eq_nil_of_length_eq_zero
            have h1 := compact_le (sortI (sepK b R k))
            rw [sortI_len, sepK_len] at h1
            omega)
          subst hk0
          have hs0 : sortI (sepK b R 0) = [] := List.eq_nil_of_length_eq_zero (by rw [sortI_len]; rfl)
          rw [hs0] at hown2
          go_wp2_with fail
          refine (slCompact_zero A2 c2 _).mono ?_
          rintro e w3 ⟨rfl, rfl⟩
          go_wp2
          go_ret
          rw [HR.out, HZ.out]
          exact ⟨A2, c2, rfl, hown2.more hbs, hw2⟩
        · obtain ⟨g2, rfl⟩ := hown2.form hk0
          have hge := (hown2.block g2 rfl).1
          obtain ⟨zs, hzs⟩ : ∃ zs, zs = sortI (sepK b R k) := ⟨_, rfl⟩
          rw [← hzs] at hown2
          have HZ := Lib.hid hzs
          clear hzs
          go_wp2_with fail
          refine (slCompact_any g2 k c2 wo.heap.size zs w2 hown2 hk1).mono ?_
          rintro e w3 ⟨rfl, hown3, hg3⟩
          have hw3 : Below w.heap.size w w3 := hw2.grown hg3 (by have := hb2.size; omega) fun i hi => by injection hi with hi; omega
          go_wp2
          go_ret
          rw [HR.out, ← HZ.out]
          exact ⟨some ⟨g2, 0, none⟩, c2, rfl, hown3.more hbs, hw3⟩
theorem once_step {b : List Nat} {R : List Int} {k z : Nat} (hk : k + 1 < b.length) (hz : sepAt b R (k + 1) = z) : (sepK b R (b.length - 1)).getD k 0 = (z : Int) := by
  rw [sepK_at b R _ (by omega), hz]
set_option maxRecDepth 100000 in
set_option maxHeartbeats 4000000 in
theorem specTreeSeparators_any (A B : Option Addr) (m m' ca cb : Nat) (L R : List Int) (w : World) (hL : RI w A m L) (hR : RI w B m' R) (hm : m ≤ 1048576) (hm' : m' ≤ 1048576) :
    Calls Try.prog 35 #[.agg #[.slice A m ca, .slice B m' cb]] w (GivesI (treeSeps L R) w) := by
  have hbk := (Blk.new w 33 #[.slice A m ca, .slice B m' cb]).alloc (.cells #[] 3)
  have hU0 : Up w ((w.alloc (.cells #[.slice A m ca, .slice B m' cb] 33)).alloc (.cells #[] 3)) := by go_grown
  have hown0 := OwnI.made_at (base := w.heap.size) (w := w.alloc (.cells #[.slice A m ca, .slice B m' cb] 33)) (g := w.heap.size + 1) (by simp) (by omega)
  obtain ⟨W, hW⟩ : ∃ W, W = (w.alloc (.cells #[.slice A m ca, .slice B m' cb] 33)).alloc (.cells #[] 3) := ⟨_, rfl⟩
  rw [← hW] at hbk hU0 hown0
  rcases isTree_cases L R with hg | ⟨hg, b, rfl, hb128, hb1, hb20, hRl⟩
  · have Hg := Lib.hid hg
    rw [treeSeps_no hg]
    clear hg
    go_enter Try.func35, Try.ntmps35
    go_wp2_with fail
    rw [← hW]
    clear hW
    go_loopw [3, 4] (fun o s wr => s = .int .i64 1 ∧ o = .slice (some ⟨w.heap.size + 1, 0, none⟩) 0 0 ∧ Up W wr) (fun _ _ _ => 0)
    case atStart => exact ⟨rfl, rfl, Up.refl _⟩
    case round =>
      obtain ⟨rfl, rfl, hb⟩ := hrel
      obtain ⟨wo, rfl⟩ : ∃ wo : World, wo = wr := ⟨_, rfl⟩
      have hbko := hbk.up hb
      have hy := hbko.two
      have hl := hbko.lt
      have hwo := Up.then_ hU0 hb
      have hown := hown0.up hb
      by_cases h1m : 1 < m
      · have d1 : decide ((1 : Int) < (m : Int)) = true := decide_eq_true (by omega)
        go_wp2_with fail
        refine (specIsTree_is (hL.up hwo) (hR.up hwo) hm hm' Hg.out).mono ?_
        rintro e w1 ⟨rfl, hb1⟩
        have hU1 := Up.then_ hwo hb1
        replace hown := hown.up hb1
        go_wp2_with fail
        refine (l8Sorted_any _ 0 0 [] w1 hown.ri (by omega)).mono ?_
        rintro e w2 ⟨A2, c2, rfl, hown2, hb2⟩
        have hs0 : sortI [] = [] := List.eq_nil_of_length_eq_zero (by rw [sortI_len]; rfl)
        rw [hs0] at hown2
        have hsz := hU1.size
        have hU2 := Up.then_ hU1 hb2
        clear hs0
        go_wp2
        go_ret
        exact ⟨A2, c2, rfl, hown2.more hsz, hU2⟩
      · have d1 : decide ((1 : Int) < (m : Int)) = false := decide_eq_false (by omega)
        go_wp2_with fail
        refine (l8Sorted_any _ 0 0 [] wo hown.ri (by omega)).mono ?_
        rintro e w2 ⟨A2, c2, rfl, hown2, hb2⟩
        have hs0 : sortI [] = [] := List.eq_nil_of_length_eq_zero (by rw [sortI_len]; rfl)
        rw [hs0] at hown2
        have hsz := hwo.size
        have hU2 := Up.then_ hwo hb2
        clear hs0
        go_wp2
        go_ret
        exact ⟨A2, c2, rfl, hown2.more hsz, hU2⟩
  · have Hg := Lib.hid hg
    have hmb : m = b.length := by rw [← hL.1, ints_len]
    subst hmb
    have hRl' : m' = b.length := by rw [← hR.1]; exact hRl
    subst hRl'
    have HP := Lib.hid (fun (i : Nat) (h0 : 0 < i) (hi : i < b.length) => parent_nat hg h0 hi)
    rw [treeSeps_ok hg]
    have HB := Lib.hid hb128
    have HC := Lib.hid (show Lib.compact (sortI (sepK b R (b.length - 1))) = sortI (onceK (sepK b R (b.length - 1)) (b.length - 1)) by rw [compact_once, sepK_len])
    rw [HC.out]
    obtain ⟨xs, hxs⟩ : ∃ xs, xs = sepK b R (b.length - 1) := ⟨_, rfl⟩
    rw [← hxs]
    have HX := Lib.hid hxs
    have HOL := Lib.hid (onceK_len xs)
    clear hg hRl hb128 hxs
    go_enter Try.func35, Try.ntmps35
    go_wp2_with fail
    rw [← hW]
    clear hW
    go_loopw [3, 4] (fun o i wr => ∃ (k j l3 : Nat) (A3 : Option Addr) (c3 : Nat), Hid (j = k + 1 ∧ l3 = (onceK xs k).length) ∧ j ≤ b.length ∧ i = .int .i64 (j : Int) ∧ o = .slice A3 l3 c3 ∧ l3 ≤ 20 ∧ OwnI wr w.heap.size A3 l3 c3 (onceK xs k) ∧ Blk wr w.heap.size 33 #[.slice A b.length ca, .slice B b.length cb] ∧ Below w.heap.size w wr) (fun _ i _ => b.length - (intOf i).toNat)
    case atStart => exact ⟨0, 1, 0, _, _, ⟨rfl, rfl⟩, hb1, rfl, rfl, by omega, hown0, hbk, hU0⟩
    case round =>
      clear hown0 hbk hU0
      obtain ⟨k, j, l3, A3, c3, hjk, hj, rfl, rfl, hl3, hown, hbk, hb⟩ := hrel
      obtain ⟨wo, rfl⟩ : ∃ wo : World, wo = wr := ⟨_, rfl⟩
      have hy := hbk.two
      have hl := hbk.lt
      by_cases hkt : j < b.length
      · obtain ⟨q, hq, hqk, hqn⟩ := HP.out j (by have := hjk.out; omega) hkt
        go_wp2_with fail
        refine (specIsTree_is (hL.up hb) (hR.up hb) hm hm' Hg.out).mono ?_
        rintro e w1 ⟨rfl, hb1'⟩
        have hU1 : Up wo w1 := hb1'
        replace hown := hown.up hU1
        replace hbk := hbk.up hU1
        replace hb : Below w.heap.size w w1 := hb.trans (hU1.mono hb.size)
        clear hy hl
        have hy := hbk.two
        have hl := hbk.lt
        have hy0 := hy.1
        have hy1 := hy.2
        obtain ⟨a, rfl, hca⟩ := (hL.up hb).ints_at hkt
        obtain ⟨a', e, hcq⟩ := (hL.up hb).ints_at (show q < b.length by omega)
        injection e with e
        subst e
        obtain ⟨r, rfl, hrb, hcr⟩ := (hR.up hb).at_ hkt
        have hab : a.block < w1.heap.size := by have := World.block_lt_of_cell? w1 _ hca; rwa [block_of_add] at this
        rw [hq] at hcr
        have hx7 := HB.out j
        have hy7 := HB.out q
        have HS := Lib.hid (show xs.getD k 0 = ((nb b j &&& nb b q : Nat) : Int) by rw [HX.out]; exact once_step (by rw [← hjk.out.1]; exact hkt) (by rw [sepAt, ← hjk.out.1, hqn]))
        obtain ⟨x, hx⟩ : ∃ x, x = nb b j := ⟨_, rfl⟩
        obtain ⟨y, hye⟩ : ∃ y, y = nb b q := ⟨_, rfl⟩
        rw [← hx] at hx7 hca HS
        rw [← hye] at hy7 hcq HS
        have hand := i64_and7 hx7 hy7
        obtain ⟨z, hz⟩ : ∃ z, z = x &&& y := ⟨_, rfl⟩
        rw [← hz] at hand HS
        clear hx hye hz hq hqn hx7 hy7
        have hqm : q < b.length := by omega
        have hl3' : l3 ≤ 9223372036854775807 := by omega
        have hl3b : l3 ≤ 1099511627776 := by omega
        obtain ⟨bh, hbh⟩ : ∃ bh, bh = decide ((z : Int) ∈ onceK xs k) := ⟨_, rfl⟩
        have HH := Lib.hid hbh.symm
        have hwb1 : w.heap.size ≤ w1.heap.size := hb.size
        clear hbh hy
        go_wp2
        go_wp2
        have hV0 : Up w1 w1.drew := (Up.refl _).drew
        refine wp_region_calm (S := (fun w' => Up w1 w' ∧ (∀ b o, b < w1.heap.size → w'.cell? ⟨b, o, none⟩ = w1.cell? ⟨b, o, none⟩) ∧ w'.cell? (⟨w.heap.size, 0, none⟩) = some (.slice (some a) b.length ca) ∧ w'.cell? (⟨w.heap.size, 1, none⟩) = some (.slice (some r) b.length cb) ∧ w'.cell? (a.add j) = some (.int .i64 x) ∧ w'.cell? (r.add j) = some (.int .i64 q) ∧ w'.cell? (a.add q) = some (.int .i64 y))) (by kernel_rfl) (by kernel_rfl) (by exact ⟨hV0, fun _ _ hb => hV0.cell hb, (hV0.cell (by first | assumption | (rw [block_of_add]; assumption))).trans (by assumption), (hV0.cell (by first | assumption | (rw [block_of_add]; assumption))).trans (by assumption), (hV0.cell (by first | assumption | (rw [block_of_add]; assumption))).trans (by assumption), (hV0.cell (by first | assumption | (rw [block_of_add]; assumption))).trans (by assumption), (hV0.cell (by first | assumption | (rw [block_of_add]; assumption))).trans (by assumption)⟩) ?_
        repeat (first | (refine CalmSeq.cons undef (Calm.off (by rfl)) ?_; (try simp only [Act.put, List.setIfInBounds_toArray, List.set_cons_zero, List.set_cons_succ])) | (refine CalmSeq.cons ?_ (Calm.val (by rfl) ?_) ?_; rotate_left; (intro wC hSw; (try dsimp only at hSw); go_simp; done); (try simp only [Act.put, List.setIfInBounds_toArray, List.set_cons_zero, List.set_cons_succ])) | (refine CalmSeq.cons ?_ (Calm.val (by rfl) ?_) ?_; rotate_left; (intro wC hSw; (try dsimp only at hSw); go_simp; with_reducible rfl); (try simp only [Act.put, List.setIfInBounds_toArray, List.set_cons_zero, List.set_cons_succ])))
        intro w2 hS2
        have hU2 : Up w1 w2 := hS2.1
        clear hS2 hV0
        have hown2 := hown.up hU2
        have hbk2 := hbk.up hU2
        have hb2 : Below w.heap.size w w2 := hb.trans (hU2.mono hwb1)
        have hwb2 : w.heap.size ≤ w2.heap.size := hb2.size
        clear hy0 hy1 hca hcq hcr hl hown hbk
        cases bh
        · have HO := Lib.hid (show onceK xs (k + 1) = onceK xs k ++ [(z : Int)] by rw [onceK_no (by rw [HS.out]; exact of_decide_eq_false HH.out), HS.out])
          have HL3 := Lib.hid (show j + 1 = k + 1 + 1 ∧ l3 + 1 = (onceK xs (k + 1)).length by
            have := hjk.out
            rw [HO.out, List.length_append]; simp; omega)
          have hl20 : l3 + 1 ≤ 20 := by
            have h1 := HL3.out.2
            have h2 := HOL.out (k + 1)
            have h3 := hjk.out.1
            omega
          have hcell := (Blk.new w2 3 #[.int .i64 (z : Int)]).one
          go_wp2_with fail
          refine (l8Has_is hown2.ri hl3' HH.out).mono ?_
          rintro e w3 ⟨rfl, rfl⟩
          go_wp2_with (at_builtin; refine wpList_push rfl (.tmp 37) (.tmp 39) rfl (z : Int) rfl (hown2.alloc _) ⟨w2.heap.size, 0, none⟩ rfl hcell hl3b (by simp; omega) ?_; intro A4 c4 w4 hown4 hb4 hg4)
          have hbk4 := (hown2.alloc (.cells #[.int .i64 (z : Int)] 3)).keeps hg4 (hbk2.alloc (.cells #[.int .i64 (z : Int)] 3)) (by decide)
          have hw4 : Below w.heap.size w w4 := (hb2.alloc hwb2 _).trans hb4
          clear hcell hg4
          go_roundw
          case rel => exact ⟨k + 1, j + 1, l3 + 1, A4, c4, HL3.out, by omega, by go_num, rfl, hl20, by rw [HO.out]; exact hown4, hbk4, hw4⟩
          case measure => simp [intOf]; omega
        · have HO := Lib.hid (show onceK xs (k + 1) = onceK xs k by rw [onceK_yes (by rw [HS.out]; exact of_decide_eq_true HH.out)])
          have HL3 := Lib.hid (show j + 1 = k + 1 + 1 ∧ l3 = (onceK xs (k + 1)).length by
            have := hjk.out
            rw [HO.out]; omega)
          go_wp2_with fail
          refine (l8Has_is hown2.ri hl3' HH.out).mono ?_
          rintro e w3 ⟨rfl, rfl⟩
          go_wp2
          go_roundw
          case rel => exact ⟨k + 1, j + 1, l3, A3, c3, HL3.out, by omega, by go_num, rfl, hl3, by rw [HO.out]; exact hown2, hbk2, hb2⟩
          case measure => simp [intOf]; omega
      · have hjb : j = b.length := by omega
        have HR := Lib.hid (show onceK xs (b.length - 1) = onceK xs k by rw [← hjb, hjk.out.1, Nat.add_sub_cancel])
        have HLn := Lib.hid (show (sortI (onceK xs k)).length = l3 by rw [sortI_len, hjk.out.2])
        have hl31 : l3 ≤ 1048576 := by omega
        have hbs : w.heap.size ≤ wo.heap.size := hb.size
        clear hjb
        go_wp2_with fail
        refine (l8Sorted_any A3 l3 c3 _ wo hown.ri hl31).mono ?_
        rintro e w2 ⟨A2, c2, rfl, hown2, hb2⟩
        have hw2 : Below w.heap.size w w2 := hb.trans (hb2.mono hbs)
        go_wp2
        go_ret
        rw [HR.out]
        exact ⟨A2, c2, by rw [HLn.out]; rfl, by rw [HLn.out]; exact hown2.more hbs, hw2⟩
end Go.Proofs.Ytnaoomchekhcgaa
