/- Walks of chapter 8: TreeSeparators. Walks of chapter 3: the parts of a set. Walks of chapter 3: the reference's parts of a set. Walks of chapter 8: minimal separators. -/
import Derived.Test.YthncdjcmlpiebaaGreatDoorQc02
import Derived.Test.YthncdjcmlpiebaaGreatDoorQc03
import Derived.Test.YthncdjcmlpiebaaGreatDoorQc04
import Derived.Test.YthncdjcmlpiebaaGreatDoorQc11
import Derived.Test.YthncdjcmlpiebaaGreatDoorQc13
import Derived.Test.YthncdjcmlpiebaaGreatDoorQc14
import Derived.Deep.RegionHeld3
namespace Go.Proofs.YthncdjcmlpiebaaGreatDoor
open Go.RowKit
/-- What bag i has in common with its parent. -/
def sepAt (b : List Nat) (P : List Int) (i : Nat) : Nat := nb b i &&& nb b (P.getD i 0).toNat
def sepK (b : List Nat) (P : List Int) : Nat → List Int
  | 0 => []
  | k + 1 => sepK b P k ++ [((sepAt b P (k + 1) : Nat) : Int)]
set_option maxRecDepth 100000 in
theorem sepK_len (b : List Nat) (P : List Int) : ∀ k, (sepK b P k).length = k
  | 0 => rfl
  | k + 1 => by rw [sepK, List.length_append, sepK_len b P k]; rfl
set_option maxRecDepth 100000 in
theorem sepK_at (b : List Nat) (P : List Int) {j : Nat} : ∀ k, j < k → (sepK b P k).getD j 0 = ((sepAt b P (j + 1) : Nat) : Int)
  | 0, h => by omega
  | k + 1, h => by
    rw [sepK]
    rcases Nat.lt_succ_iff_lt_or_eq.1 h with h' | rfl
    · have := sepK_at b P k h'
      rw [List.getD_eq_getElem?_getD, List.getElem?_append_left (by rw [sepK_len]; exact h'), ← List.getD_eq_getElem?_getD, this]
    · rw [List.getD_eq_getElem?_getD, List.getElem?_append_right (by rw [sepK_len]; exact Nat.le_refl _), sepK_len]
      simp
def treeSeps (L P : List Int) : List Int := if isTree L P then Lib.compact (sortI (sepK (L.map Int.toNat) P (L.length - 1))) else []
set_option maxRecDepth 100000 in
theorem treeSeps_no {L P : List Int} (h : isTree L P = false) : treeSeps L P = [] := by rw [treeSeps, h]; rfl
set_option maxRecDepth 100000 in
theorem treeSeps_ok {b : List Nat} {P : List Int} (h : isTree (ints b) P = true) : treeSeps (ints b) P = Lib.compact (sortI (sepK b P (b.length - 1))) := by
  rw [treeSeps, if_pos h, ints_len]
  have : (ints b).map Int.toNat = b := by simp [ints, List.map_map, Function.comp_def]
  rw [this]
set_option maxRecDepth 100000 in
theorem treeSeps_len (L P : List Int) : (treeSeps L P).length ≤ 1048576 := by
  rcases isTree_cases L P with h | ⟨h, b, rfl, _, _, h20, _⟩
  · rw [treeSeps_no h]; simp
  · rw [treeSeps_ok h]
    have h1 := compact_le (sortI (sepK b P (b.length - 1)))
    rw [sortI_len, sepK_len] at h1
    omega
set_option maxRecDepth 100000 in
/-- A parent of a tree as a number. -/
theorem parent_nat {b : List Nat} {P : List Int} (h : isTree (ints b) P = true) {i : Nat} (h0 : 0 < i) (hi : i < b.length) : ∃ q : Nat, P.getD i 0 = q ∧ q < i ∧ (P.getD i 0).toNat = q := by
  have := (tOk_pos h0).1 ((isTree_spec h).2.2.2 i (by rw [ints_len]; exact hi))
  exact ⟨(P.getD i 0).toNat, by omega, by omega, rfl⟩
set_option maxRecDepth 100000 in
theorem keepSep {w0 w w' : World} {B j q n ca cb base c3 k : Nat} {a r : Addr} {A3 : Option Addr} {xs : List Int} {x y z : Value} (hown : OwnI w base A3 k c3 xs) (hg : w.grownBy w' (Value.slice A3 k c3).ownBlock) (hbk : Blk w B 49 #[.slice (some a) n ca, .slice (some r) n cb]) (hb : Below base w0 w')
    (ha : a.block < base) (hr : r.block < base) (hx : w0.cell? (a.add j) = some x) (hz : w0.cell? (r.add j) = some z) (hy : w0.cell? (a.add q) = some y) :
    w'.cell? ⟨B, 0, none⟩ = some (.slice (some a) n ca) ∧ w'.cell? ⟨B, 1, none⟩ = some (.slice (some r) n cb) ∧ w'.cell? (a.add j) = some x ∧ w'.cell? (r.add j) = some z ∧ w'.cell? (a.add q) = some y := by
  have h := (hown.keeps hg hbk (by decide)).two
  exact ⟨h.1, h.2, (hb.cell (p := a.add j) (by rw [block_of_add]; exact ha)).trans hx, (hb.cell (p := r.add j) (by rw [block_of_add]; exact hr)).trans hz, (hb.cell (p := a.add q) (by rw [block_of_add]; exact ha)).trans hy⟩
set_option maxRecDepth 100000 in
set_option maxHeartbeats 4000000 in
theorem implTreeSeparators_any (A B : Option Addr) (m m' ca cb : Nat) (L R : List Int) (w : World) (hL : RI w A m L) (hR : RI w B m' R) (hm : m ≤ 1048576) (hm' : m' ≤ 1048576) :
    Calls Tryz.prog 39 #[.agg #[.slice A m ca, .slice B m' cb]] w (GivesI (treeSeps L R) w) := by
  have hbk := Blk.new w 49 #[.slice A m ca, .slice B m' cb]
  have hU0 : Up w (w.alloc (.cells #[.slice A m ca, .slice B m' cb] 49)) := by go_grown
  have hown0 := OwnI.made_at (base := w.heap.size) (w := w.alloc (.cells #[.slice A m ca, .slice B m' cb] 49)) (g := w.heap.size + 1) (by simp) (by omega)
  rcases isTree_cases L R with hg | ⟨hg, b, rfl, hb128, hb1, hb20, hRl⟩
  · have Hg := Lib.hid hg
    rw [treeSeps_no hg]
    clear hg
    go_enter Tryz.func39, Tryz.ntmps39
    go_wp2_with fail
    refine (implIsTree_is (hL.up (by go_grown)) (hR.up (by go_grown)) hm hm' Hg.out).mono ?_
    rintro e w1 ⟨rfl, hb1⟩
    have hU1 : Up w w1 := Up.then_ (by go_grown) hb1
    replace hown0 := hown0.up hb1
    go_wp2
    go_ret
    exact ⟨_, _, rfl, hown0, hU1⟩
  · have Hg := Lib.hid hg
    have hmb : m = b.length := by rw [← hL.1, ints_len]
    subst hmb
    have hRl' : m' = b.length := by rw [← hR.1]; exact hRl
    subst hRl'
    have HP := Lib.hid (fun (i : Nat) (h0 : 0 < i) (hi : i < b.length) => parent_nat hg h0 hi)
    rw [treeSeps_ok hg]
    have HB := Lib.hid hb128
    clear hg hRl hb128
    go_enter Tryz.func39, Tryz.ntmps39
    go_wp2_with fail
    refine (implIsTree_is (hL.up (by go_grown)) (hR.up (by go_grown)) hm hm' Hg.out).mono ?_
    rintro e w1 ⟨rfl, hb1'⟩
    have hU1 : Up w w1 := Up.then_ (by go_grown) hb1'
    replace hown0 := hown0.up hb1'
    replace hbk := (hbk.alloc (.cells #[] 3)).up hb1'
    clear hU0
    go_wp2_with fail
    go_loopw [3, 4] (fun o i wr => ∃ (k j : Nat) (A3 : Option Addr) (c3 : Nat), Hid (j = k + 1) ∧ j ≤ b.length ∧ i = .int .i64 (j : Int) ∧ o = .slice A3 k c3 ∧ OwnI wr w.heap.size A3 k c3 (sepK b R k) ∧ Blk wr w.heap.size 49 #[.slice A b.length ca, .slice B b.length cb] ∧ Below w.heap.size w wr) (fun _ i _ => b.length - (intOf i).toNat)
    case atStart => exact ⟨0, 1, _, _, rfl, hb1, rfl, rfl, hown0, hbk, hU1⟩
    case round =>
      clear hown0 hbk
      obtain ⟨k, j, A3, c3, hjk, hj, rfl, rfl, hown, hbk, hb⟩ := hrel
      obtain ⟨wo, rfl⟩ : ∃ wo : World, wo = wr := ⟨_, rfl⟩
      have hy := hbk.two
      have hl := hbk.lt
      by_cases hkt : j < b.length
      · obtain ⟨q, hq, hqk, hqn⟩ := HP.out j (by have := hjk.out; omega) hkt
        obtain ⟨a, rfl, hca⟩ := (hL.up hb).ints_at hkt
        obtain ⟨a', e, hcq⟩ := (hL.up hb).ints_at (show q < b.length by omega)
        injection e with e
        subst e
        obtain ⟨r, rfl, hrb, hcr⟩ := (hR.up hb).at_ hkt
        have hab : a.block < wo.heap.size := by have := World.block_lt_of_cell? wo _ hca; rwa [block_of_add] at this
        rw [hq] at hcr
        have hx7 := HB.out j
        have hy7 := HB.out q
        have HS := Lib.hid (show sepK b R (k + 1) = sepK b R k ++ [((nb b j &&& nb b q : Nat) : Int)] by rw [sepK, sepAt, ← hjk.out, hqn])
        obtain ⟨x, hx⟩ : ∃ x, x = nb b j := ⟨_, rfl⟩
        obtain ⟨y, hye⟩ : ∃ y, y = nb b q := ⟨_, rfl⟩
        rw [← hx] at hx7 hca HS
        rw [← hye] at hy7 hcq HS
        have hand := i64_and7 hx7 hy7
        obtain ⟨z, hz⟩ : ∃ z, z = x &&& y := ⟨_, rfl⟩
        rw [← hz] at hand HS
        clear hx hye hz hq hqn hx7 hy7
        have hqm : q < b.length := by omega
        have hba0 : a.block < w.heap.size := by
          obtain ⟨ad, e, h, _⟩ := hL.at_ hkt
          injection e with e; rw [e]; exact h
        have hbr0 : r.block < w.heap.size := by
          obtain ⟨ad, e, h, _⟩ := hR.at_ hkt
          injection e with e; rw [e]; exact h
        have hra : r.block < wo.heap.size := hrb
        have hba : a.block < w.heap.size := hba0
        have hbr : r.block < w.heap.size := hbr0
        have hbw : Below w.heap.size wo ((wo.alloc (.cells #[.int .i64 (z : Int)] 3)).drew) := by go_grown
        have hwo : w.heap.size ≤ wo.heap.size := hb.size
        have hownB := (hown.alloc (.cells #[.int .i64 (z : Int)] 3)).drew
        have hriB : RI ((wo.alloc (.cells #[.int .i64 (z : Int)] 3)).drew) (some ⟨wo.heap.size, 0, none⟩) 1 [(z : Int)] := ((Blk.new wo 3 #[.int .i64 (z : Int)]).ri (xs := [(z : Int)]) rfl).drew
        have hbkB := (hbk.alloc (.cells #[.int .i64 (z : Int)] 3)).drew
        have hk1 : k + 1 ≤ 1048576 := by have := hjk.out; omega
        have hy0 := hy.1
        have hy1 := hy.2
        go_wp2
        have hV0 : Up wo wo.drew := (Up.refl _).drew
        refine wp_region_held_drew (S := (fun w' => w'.cell? (⟨w.heap.size, 0, none⟩) = some (.slice (some a) b.length ca) ∧ w'.cell? (⟨w.heap.size, 1, none⟩) = some (.slice (some r) b.length cb) ∧ w'.cell? (a.add j) = some (.int .i64 x) ∧ w'.cell? (r.add j) = some (.int .i64 q) ∧ w'.cell? (a.add q) = some (.int .i64 y))) (by kernel_rfl) (by exact ⟨(hV0.cell (by first | assumption | (rw [block_of_add]; assumption))).trans (by assumption), (hV0.cell (by first | assumption | (rw [block_of_add]; assumption))).trans (by assumption), (hV0.cell (by first | assumption | (rw [block_of_add]; assumption))).trans (by assumption), (hV0.cell (by first | assumption | (rw [block_of_add]; assumption))).trans (by assumption), (hV0.cell (by first | assumption | (rw [block_of_add]; assumption))).trans (by assumption)⟩) (fun hHeld => ?_)
        refine wpAnyH_take (i := 0) (v := ?_) rfl (by kernel_rfl) (by kernel_rfl) (by kernel_rfl) (fun _ _ _ h => h) (Or.inl ⟨by rfl, ?_⟩) (by assumption) ?_
        rotate_left
        · (intro w' hSw; go_simp; try with_reducible rfl)
        (try simp only [List.getElem_toArray]); (try simp only [List.getElem_cons_succ]); (try simp only [List.getElem_cons_zero]); (try simp only [Act.put]); (try simp only [List.setIfInBounds_toArray]); (try simp only [List.set_cons_succ]); (try simp only [List.set_cons_zero])
        refine wpAnyH_take (i := 1) (v := ?_) rfl (by kernel_rfl) (by kernel_rfl) (by kernel_rfl) (fun _ _ _ h => h) (Or.inl ⟨by rfl, ?_⟩) (by assumption) ?_
        rotate_left
        · (intro w' hSw; go_simp; try with_reducible rfl)
        (try simp only [List.getElem_toArray]); (try simp only [List.getElem_cons_succ]); (try simp only [List.getElem_cons_zero]); (try simp only [Act.put]); (try simp only [List.setIfInBounds_toArray]); (try simp only [List.set_cons_succ]); (try simp only [List.set_cons_zero])
        refine wpAnyH_take (i := 2) (v := ?_) rfl (by kernel_rfl) (by kernel_rfl) (by kernel_rfl) (fun _ _ _ h => h) (Or.inl ⟨by rfl, ?_⟩) (by assumption) ?_
        rotate_left
        · (intro w' hSw; go_simp; try with_reducible rfl)
        (try simp only [List.getElem_toArray]); (try simp only [List.getElem_cons_succ]); (try simp only [List.getElem_cons_zero]); (try simp only [Act.put]); (try simp only [List.setIfInBounds_toArray]); (try simp only [List.set_cons_succ]); (try simp only [List.set_cons_zero])
        refine wpAnyH_take (i := 3) (v := ?_) rfl (by kernel_rfl) (by kernel_rfl) (by kernel_rfl) (fun _ _ _ h => h) (Or.inl ⟨by rfl, ?_⟩) (by assumption) ?_
        rotate_left
        · (intro w' hSw; go_simp; try with_reducible rfl)
        (try simp only [List.getElem_toArray]); (try simp only [List.getElem_cons_succ]); (try simp only [List.getElem_cons_zero]); (try simp only [Act.put]); (try simp only [List.setIfInBounds_toArray]); (try simp only [List.set_cons_succ]); (try simp only [List.set_cons_zero])
        refine wpAnyH_take (i := 4) (v := ?_) rfl (by kernel_rfl) (by kernel_rfl) (by kernel_rfl) (fun _ _ _ h => h) (Or.inl ⟨by rfl, ?_⟩) (by assumption) ?_
        rotate_left
        · (intro w' hSw; go_simp; try with_reducible rfl)
        (try simp only [List.getElem_toArray]); (try simp only [List.getElem_cons_succ]); (try simp only [List.getElem_cons_zero]); (try simp only [Act.put]); (try simp only [List.setIfInBounds_toArray]); (try simp only [List.set_cons_succ]); (try simp only [List.set_cons_zero])
        refine wpAnyH_take (i := 5) (v := ?_) rfl (by kernel_rfl) (by kernel_rfl) (by kernel_rfl) (fun _ _ _ h => h) (Or.inl ⟨by rfl, ?_⟩) (by assumption) ?_
        rotate_left
        · (intro w' hSw; go_simp; try with_reducible rfl)
        (try simp only [List.getElem_toArray]); (try simp only [List.getElem_cons_succ]); (try simp only [List.getElem_cons_zero]); (try simp only [Act.put]); (try simp only [List.setIfInBounds_toArray]); (try simp only [List.set_cons_succ]); (try simp only [List.set_cons_zero])
        refine wpAnyH_take (i := 6) (v := ?_) rfl (by kernel_rfl) (by kernel_rfl) (by kernel_rfl) (fun _ _ _ h => h) (Or.inl ⟨by rfl, ?_⟩) (by assumption) ?_
        rotate_left
        · (intro w' hSw; go_simp; try with_reducible rfl)
        (try simp only [List.getElem_toArray]); (try simp only [List.getElem_cons_succ]); (try simp only [List.getElem_cons_zero]); (try simp only [Act.put]); (try simp only [List.setIfInBounds_toArray]); (try simp only [List.set_cons_succ]); (try simp only [List.set_cons_zero])
        refine wpAnyH_take (i := 7) (v := ?_) rfl (by kernel_rfl) (by kernel_rfl) (by kernel_rfl) (fun _ _ _ h => h) (Or.inl ⟨by rfl, ?_⟩) (by assumption) ?_
        rotate_left
        · (intro w' hSw; go_simp; try with_reducible rfl)
        (try simp only [List.getElem_toArray]); (try simp only [List.getElem_cons_succ]); (try simp only [List.getElem_cons_zero]); (try simp only [Act.put]); (try simp only [List.setIfInBounds_toArray]); (try simp only [List.set_cons_succ]); (try simp only [List.set_cons_zero])
        refine wpAnyH_take (i := 8) (v := ?_) rfl (by kernel_rfl) (by kernel_rfl) (by kernel_rfl) (fun _ _ _ h => h) (Or.inl ⟨by rfl, ?_⟩) (by assumption) ?_
        rotate_left
        · (intro w' hSw; go_simp; try with_reducible rfl)
        (try simp only [List.getElem_toArray]); (try simp only [List.getElem_cons_succ]); (try simp only [List.getElem_cons_zero]); (try simp only [Act.put]); (try simp only [List.setIfInBounds_toArray]); (try simp only [List.set_cons_succ]); (try simp only [List.set_cons_zero])
        refine wpAnyH_take (i := 9) (v := ?_) rfl (by kernel_rfl) (by kernel_rfl) (by kernel_rfl) (fun _ _ _ h => h) (Or.inl ⟨by rfl, ?_⟩) (by assumption) ?_
        rotate_left
        · (intro w' hSw; go_simp; try with_reducible rfl)
        (try simp only [List.getElem_toArray]); (try simp only [List.getElem_cons_succ]); (try simp only [List.getElem_cons_zero]); (try simp only [Act.put]); (try simp only [List.setIfInBounds_toArray]); (try simp only [List.set_cons_succ]); (try simp only [List.set_cons_zero])
        refine wpAnyH_take (i := 10) (v := ?_) rfl (by kernel_rfl) (by kernel_rfl) (by kernel_rfl) (fun _ _ _ h => h) (Or.inl ⟨by rfl, ?_⟩) (by assumption) ?_
        rotate_left
        · (intro w' hSw; go_simp; try with_reducible rfl)
        (try simp only [List.getElem_toArray]); (try simp only [List.getElem_cons_succ]); (try simp only [List.getElem_cons_zero]); (try simp only [Act.put]); (try simp only [List.setIfInBounds_toArray]); (try simp only [List.set_cons_succ]); (try simp only [List.set_cons_zero])
        refine wpAnyH_take (i := 11) (v := ?_) rfl (by kernel_rfl) (by kernel_rfl) (by kernel_rfl) (fun _ _ _ h => h) (Or.inl ⟨by rfl, ?_⟩) (by assumption) ?_
        rotate_left
        · (intro w' hSw; go_simp; try with_reducible rfl)
        (try simp only [List.getElem_toArray]); (try simp only [List.getElem_cons_succ]); (try simp only [List.getElem_cons_zero]); (try simp only [Act.put]); (try simp only [List.setIfInBounds_toArray]); (try simp only [List.set_cons_succ]); (try simp only [List.set_cons_zero])
        refine wpAnyH_take (i := 12) (v := ?_) rfl (by kernel_rfl) (by kernel_rfl) (by kernel_rfl) (fun _ _ _ h => h) (Or.inl ⟨by rfl, ?_⟩) (by assumption) ?_
        rotate_left
        · (intro w' hSw; go_simp; try with_reducible rfl)
        (try simp only [List.getElem_toArray]); (try simp only [List.getElem_cons_succ]); (try simp only [List.getElem_cons_zero]); (try simp only [Act.put]); (try simp only [List.setIfInBounds_toArray]); (try simp only [List.set_cons_succ]); (try simp only [List.set_cons_zero])
        refine wpAnyH_take (i := 13) (v := ?_) rfl (by kernel_rfl) (by kernel_rfl) (by kernel_rfl) (fun _ _ _ h => h) (Or.inl ⟨by rfl, ?_⟩) (by assumption) ?_
        rotate_left
        · (intro w' hSw; go_simp; try with_reducible rfl)
        (try simp only [List.getElem_toArray]); (try simp only [List.getElem_cons_succ]); (try simp only [List.getElem_cons_zero]); (try simp only [Act.put]); (try simp only [List.setIfInBounds_toArray]); (try simp only [List.set_cons_succ]); (try simp only [List.set_cons_zero])
        refine wpAnyH_take (i := 14) (v := ?_) rfl (by kernel_rfl) (by kernel_rfl) (by kernel_rfl) (fun _ _ _ h => h) (Or.inl ⟨by rfl, ?_⟩) (by assumption) ?_
        rotate_left
        · (intro w' hSw; go_simp; try with_reducible rfl)
        (try simp only [List.getElem_toArray]); (try simp only [List.getElem_cons_succ]); (try simp only [List.getElem_cons_zero]); (try simp only [Act.put]); (try simp only [List.setIfInBounds_toArray]); (try simp only [List.set_cons_succ]); (try simp only [List.set_cons_zero])
        refine wpAnyH_take (i := 15) (v := ?_) rfl (by kernel_rfl) (by kernel_rfl) (by kernel_rfl) (fun _ _ _ h => h) (Or.inl ⟨by rfl, ?_⟩) (by assumption) ?_
        rotate_left
        · (intro w' hSw; go_simp; try with_reducible rfl)
        (try simp only [List.getElem_toArray]); (try simp only [List.getElem_cons_succ]); (try simp only [List.getElem_cons_zero]); (try simp only [Act.put]); (try simp only [List.setIfInBounds_toArray]); (try simp only [List.set_cons_succ]); (try simp only [List.set_cons_zero])
        refine wpAnyH_ready (rs := [16]) (by kernel_rfl) (by simp) ?_
        refine AllReadyH.cons rfl (fun K hK => ?_) AllReadyH.nil
        go_simp
        have hB16 : Up wo ((wo.alloc (.cells #[.int .i64 (z : Int)] 3)).drew) := by go_grown
        refine hK.out _ _ (by exact ⟨(hB16.cell (by first | assumption | (rw [block_of_add]; assumption))).trans (by assumption), (hB16.cell (by first | assumption | (rw [block_of_add]; assumption))).trans (by assumption), (hB16.cell (by first | assumption | (rw [block_of_add]; assumption))).trans (by assumption), (hB16.cell (by first | assumption | (rw [block_of_add]; assumption))).trans (by assumption), (hB16.cell (by first | assumption | (rw [block_of_add]; assumption))).trans (by assumption)⟩) (fun hHeldb16 => ?_)
        clear hK K
        (try simp only [List.getElem_toArray]); (try simp only [List.getElem_cons_succ]); (try simp only [List.getElem_cons_zero]); (try simp only [Act.put]); (try simp only [List.setIfInBounds_toArray]); (try simp only [List.set_cons_succ]); (try simp only [List.set_cons_zero])
        refine wpAnyH_ready (rs := [17]) (by kernel_rfl) (by simp) ?_
        refine AllReadyH.cons rfl (fun K hK => ?_) AllReadyH.nil
        refine step_append_own rfl (.tmp 17) (.tmp 33) rfl rfl hownB rfl hriB hk1 (by simp; omega) ?_
        intro A5 c5 w5 hown5 hb5 hg5
        have hA17 := keepSep hownB hg5 hbkB (hbw.trans hb5) hba hbr hca hcr hcq
        refine hK.out _ _ hA17 (fun hHelda17 => ?_)
        clear hK K
        (try simp only [List.getElem_toArray]); (try simp only [List.getElem_cons_succ]); (try simp only [List.getElem_cons_zero]); (try simp only [Act.put]); (try simp only [List.setIfInBounds_toArray]); (try simp only [List.set_cons_succ]); (try simp only [List.set_cons_zero])
        refine wpAnyH_take (i := 18) (v := ?_) rfl (by kernel_rfl) (by kernel_rfl) (by kernel_rfl) (fun _ _ _ h => h) (Or.inl ⟨by rfl, ?_⟩) (by assumption) ?_
        rotate_left
        · (intro w' hSw; go_simp; try with_reducible rfl)
        (try simp only [List.getElem_toArray]); (try simp only [List.getElem_cons_succ]); (try simp only [List.getElem_cons_zero]); (try simp only [Act.put]); (try simp only [List.setIfInBounds_toArray]); (try simp only [List.set_cons_succ]); (try simp only [List.set_cons_zero])
        refine wpAnyH_done (by kernel_rfl) ?_ _
        have hU1 := hV0
        have hbk5 := hownB.keeps hg5 hbkB (by decide)
        have hb5' : Below w.heap.size w w5 := hb.trans (hbw.trans hb5)
        have HJ2 := Lib.hid (show j + 1 = k + 1 + 1 by rw [hjk.out])
        clear hHeld hHeldb16 hHelda17 hA17 hB16 hV0 hU1 hownB hriB hbkB hy0 hy1 hown hbk hca hcq hcr hy
        go_wp2_with fail
        go_roundw
        case rel => exact ⟨k + 1, j + 1, A5, c5, HJ2.out, by omega, by go_num, rfl, by rw [HS.out]; exact hown5, hbk5, hb5'⟩
        case measure => simp [intOf]; omega
      · have hjb : j = b.length := by omega
        have HR := Lib.hid (show sepK b R (b.length - 1) = sepK b R k by rw [← hjb, hjk.out, Nat.add_sub_cancel])
        have hk1 : k ≤ 1048576 := by have := hjk.out; omega
        have hnot : ¬ j < b.length := hkt
        clear hjb
        go_wp2_with fail
        refine (sorted_any A3 k c3 _ wo hown.ri hk1).mono ?_
        rintro e w2 ⟨A2, c2, rfl, hown2, hb2⟩
        have hw2 : Below w.heap.size w w2 := hb.trans (hb2.mono hb.size)
        have hbs : w.heap.size ≤ wo.heap.size := hb.size
        rcases Nat.eq_zero_or_pos k with hk0 | hk0
        · have HZ := Lib.hid (show Lib.compact (sortI (sepK b R k)) = [] by
            apply List.eq_nil_of_length_eq_zero
            have h1 := compact_le (sortI (sepK b R k))
            rw [sortI_len, sepK_len] at h1
            omega)
          subst hk0
          have hs0 : sortI (sepK b R 0) = [] := List.eq_nil_of_length_eq_zero (by rw [sortI_len]; rfl)
          rw [hs0] at hown2
          go_wp2_with fail
          refine (slCompact_zero A2 c2 _).mono ?_
          rintro e w3 ⟨rfl, rfl⟩
          go_wp2
          go_ret
          rw [HR.out, HZ.out]
          exact ⟨A2, c2, rfl, hown2.more hbs, hw2⟩
        · obtain ⟨g2, rfl⟩ := hown2.form hk0
          have hge := (hown2.block g2 rfl).1
          obtain ⟨zs, hzs⟩ : ∃ zs, zs = sortI (sepK b R k) := ⟨_, rfl⟩
          rw [← hzs] at hown2
          have HZ := Lib.hid hzs
          clear hzs
          go_wp2_with fail
          refine (slCompact_any g2 k c2 wo.heap.size zs w2 hown2 hk1).mono ?_
          rintro e w3 ⟨rfl, hown3, hg3⟩
          have hw3 : Below w.heap.size w w3 := hw2.grown hg3 (by have := hb2.size; omega) fun i hi => by injection hi with hi; omega
          go_wp2
          go_ret
          rw [HR.out, ← HZ.out]
          exact ⟨some ⟨g2, 0, none⟩, c2, rfl, hown3.more hbs, hw3⟩
set_option maxRecDepth 100000 in
theorem once_step {b : List Nat} {R : List Int} {k z : Nat} (hk : k + 1 < b.length) (hz : sepAt b R (k + 1) = z) : (sepK b R (b.length - 1)).getD k 0 = (z : Int) := by
  rw [sepK_at b R _ (by omega), hz]
set_option maxRecDepth 100000 in
set_option maxHeartbeats 4000000 in
theorem specTreeSeparators_any (A B : Option Addr) (m m' ca cb : Nat) (L R : List Int) (w : World) (hL : RI w A m L) (hR : RI w B m' R) (hm : m ≤ 1048576) (hm' : m' ≤ 1048576) :
    Calls Tryz.prog 51 #[.agg #[.slice A m ca, .slice B m' cb]] w (GivesI (treeSeps L R) w) := by
  have hbk := (Blk.new w 49 #[.slice A m ca, .slice B m' cb]).alloc (.cells #[] 3)
  have hU0 : Up w ((w.alloc (.cells #[.slice A m ca, .slice B m' cb] 49)).alloc (.cells #[] 3)) := by go_grown
  have hown0 := OwnI.made_at (base := w.heap.size) (w := w.alloc (.cells #[.slice A m ca, .slice B m' cb] 49)) (g := w.heap.size + 1) (by simp) (by omega)
  obtain ⟨W, hW⟩ : ∃ W, W = (w.alloc (.cells #[.slice A m ca, .slice B m' cb] 49)).alloc (.cells #[] 3) := ⟨_, rfl⟩
  rw [← hW] at hbk hU0 hown0
  rcases isTree_cases L R with hg | ⟨hg, b, rfl, hb128, hb1, hb20, hRl⟩
  · have Hg := Lib.hid hg
    rw [treeSeps_no hg]
    clear hg
    go_enter Tryz.func51, Tryz.ntmps51
    go_wp2_with fail
    rw [← hW]
    clear hW
    go_loopw [3, 4] (fun o s wr => s = .int .i64 1 ∧ o = .slice (some ⟨w.heap.size + 1, 0, none⟩) 0 0 ∧ Up W wr) (fun _ _ _ => 0)
    case atStart => exact ⟨rfl, rfl, Up.refl _⟩
    case round =>
      obtain ⟨rfl, rfl, hb⟩ := hrel
      obtain ⟨wo, rfl⟩ : ∃ wo : World, wo = wr := ⟨_, rfl⟩
      have hbko := hbk.up hb
      have hy := hbko.two
      have hl := hbko.lt
      have hwo := Up.then_ hU0 hb
      have hown := hown0.up hb
      by_cases h1m : 1 < m
      · have d1 : decide ((1 : Int) < (m : Int)) = true := decide_eq_true (by omega)
        go_wp2_with fail
        refine (specIsTree_is (hL.up hwo) (hR.up hwo) hm hm' Hg.out).mono ?_
        rintro e w1 ⟨rfl, hb1⟩
        have hU1 := Up.then_ hwo hb1
        replace hown := hown.up hb1
        go_wp2_with fail
        refine (l8Sorted_any _ 0 0 [] w1 hown.ri (by omega)).mono ?_
        rintro e w2 ⟨A2, c2, rfl, hown2, hb2⟩
        have hs0 : sortI [] = [] := List.eq_nil_of_length_eq_zero (by rw [sortI_len]; rfl)
        rw [hs0] at hown2
        have hsz := hU1.size
        have hU2 := Up.then_ hU1 hb2
        clear hs0
        go_wp2
        go_ret
        exact ⟨A2, c2, rfl, hown2.more hsz, hU2⟩
      · have d1 : decide ((1 : Int) < (m : Int)) = false := decide_eq_false (by omega)
        go_wp2_with fail
        refine (l8Sorted_any _ 0 0 [] wo hown.ri (by omega)).mono ?_
        rintro e w2 ⟨A2, c2, rfl, hown2, hb2⟩
        have hs0 : sortI [] = [] := List.eq_nil_of_length_eq_zero (by rw [sortI_len]; rfl)
        rw [hs0] at hown2
        have hsz := hwo.size
        have hU2 := Up.then_ hwo hb2
        clear hs0
        go_wp2
        go_ret
        exact ⟨A2, c2, rfl, hown2.more hsz, hU2⟩
  · have Hg := Lib.hid hg
    have hmb : m = b.length := by rw [← hL.1, ints_len]
    subst hmb
    have hRl' : m' = b.length := by rw [← hR.1]; exact hRl
    subst hRl'
    have HP := Lib.hid (fun (i : Nat) (h0 : 0 < i) (hi : i < b.length) => parent_nat hg h0 hi)
    rw [treeSeps_ok hg]
    have HB := Lib.hid hb128
    have HC := Lib.hid (show Lib.compact (sortI (sepK b R (b.length - 1))) = sortI (onceK (sepK b R (b.length - 1)) (b.length - 1)) by rw [compact_once, sepK_len])
    rw [HC.out]
    obtain ⟨xs, hxs⟩ : ∃ xs, xs = sepK b R (b.length - 1) := ⟨_, rfl⟩
    rw [← hxs]
    have HX := Lib.hid hxs
    have HOL := Lib.hid (onceK_len xs)
    clear hg hRl hb128 hxs
    go_enter Tryz.func51, Tryz.ntmps51
    go_wp2_with fail
    rw [← hW]
    clear hW
    go_loopw [3, 4] (fun o i wr => ∃ (k j l3 : Nat) (A3 : Option Addr) (c3 : Nat), Hid (j = k + 1 ∧ l3 = (onceK xs k).length) ∧ j ≤ b.length ∧ i = .int .i64 (j : Int) ∧ o = .slice A3 l3 c3 ∧ l3 ≤ 20 ∧ OwnI wr w.heap.size A3 l3 c3 (onceK xs k) ∧ Blk wr w.heap.size 49 #[.slice A b.length ca, .slice B b.length cb] ∧ Below w.heap.size w wr) (fun _ i _ => b.length - (intOf i).toNat)
    case atStart => exact ⟨0, 1, 0, _, _, ⟨rfl, rfl⟩, hb1, rfl, rfl, by omega, hown0, hbk, hU0⟩
    case round =>
      clear hown0 hbk hU0
      obtain ⟨k, j, l3, A3, c3, hjk, hj, rfl, rfl, hl3, hown, hbk, hb⟩ := hrel
      obtain ⟨wo, rfl⟩ : ∃ wo : World, wo = wr := ⟨_, rfl⟩
      have hy := hbk.two
      have hl := hbk.lt
      by_cases hkt : j < b.length
      · obtain ⟨q, hq, hqk, hqn⟩ := HP.out j (by have := hjk.out; omega) hkt
        go_wp2_with fail
        refine (specIsTree_is (hL.up hb) (hR.up hb) hm hm' Hg.out).mono ?_
        rintro e w1 ⟨rfl, hb1'⟩
        have hU1 : Up wo w1 := hb1'
        replace hown := hown.up hU1
        replace hbk := hbk.up hU1
        replace hb : Below w.heap.size w w1 := hb.trans (hU1.mono hb.size)
        clear hy hl
        have hy := hbk.two
        have hl := hbk.lt
        have hy0 := hy.1
        have hy1 := hy.2
        obtain ⟨a, rfl, hca⟩ := (hL.up hb).ints_at hkt
        obtain ⟨a', e, hcq⟩ := (hL.up hb).ints_at (show q < b.length by omega)
        injection e with e
        subst e
        obtain ⟨r, rfl, hrb, hcr⟩ := (hR.up hb).at_ hkt
        have hab : a.block < w1.heap.size := by have := World.block_lt_of_cell? w1 _ hca; rwa [block_of_add] at this
        rw [hq] at hcr
        have hx7 := HB.out j
        have hy7 := HB.out q
        have HS := Lib.hid (show xs.getD k 0 = ((nb b j &&& nb b q : Nat) : Int) by rw [HX.out]; exact once_step (by rw [← hjk.out.1]; exact hkt) (by rw [sepAt, ← hjk.out.1, hqn]))
        obtain ⟨x, hx⟩ : ∃ x, x = nb b j := ⟨_, rfl⟩
        obtain ⟨y, hye⟩ : ∃ y, y = nb b q := ⟨_, rfl⟩
        rw [← hx] at hx7 hca HS
        rw [← hye] at hy7 hcq HS
        have hand := i64_and7 hx7 hy7
        obtain ⟨z, hz⟩ : ∃ z, z = x &&& y := ⟨_, rfl⟩
        rw [← hz] at hand HS
        clear hx hye hz hq hqn hx7 hy7
        have hqm : q < b.length := by omega
        have hl3' : l3 ≤ 9223372036854775807 := by omega
        have hl3b : l3 ≤ 1099511627776 := by omega
        obtain ⟨bh, hbh⟩ : ∃ bh, bh = decide ((z : Int) ∈ onceK xs k) := ⟨_, rfl⟩
        have HH := Lib.hid hbh.symm
        have hwb1 : w.heap.size ≤ w1.heap.size := hb.size
        clear hbh hy
        go_wp2
        go_wp2
        have hV0 : Up w1 w1.drew := (Up.refl _).drew
        refine wp_region_calm (S := (fun w' => Up w1 w' ∧ (∀ b o, b < w1.heap.size → w'.cell? ⟨b, o, none⟩ = w1.cell? ⟨b, o, none⟩) ∧ w'.cell? (⟨w.heap.size, 0, none⟩) = some (.slice (some a) b.length ca) ∧ w'.cell? (⟨w.heap.size, 1, none⟩) = some (.slice (some r) b.length cb) ∧ w'.cell? (a.add j) = some (.int .i64 x) ∧ w'.cell? (r.add j) = some (.int .i64 q) ∧ w'.cell? (a.add q) = some (.int .i64 y))) (by kernel_rfl) (by kernel_rfl) (by exact ⟨hV0, fun _ _ hb => hV0.cell hb, (hV0.cell (by first | assumption | (rw [block_of_add]; assumption))).trans (by assumption), (hV0.cell (by first | assumption | (rw [block_of_add]; assumption))).trans (by assumption), (hV0.cell (by first | assumption | (rw [block_of_add]; assumption))).trans (by assumption), (hV0.cell (by first | assumption | (rw [block_of_add]; assumption))).trans (by assumption), (hV0.cell (by first | assumption | (rw [block_of_add]; assumption))).trans (by assumption)⟩) ?_
        repeat (first | (refine CalmSeq.cons undef (Calm.off (by rfl)) ?_; (try simp only [Act.put, List.setIfInBounds_toArray, List.set_cons_zero, List.set_cons_succ])) | (refine CalmSeq.cons ?_ (Calm.val (by rfl) ?_) ?_; rotate_left; (intro wC hSw; (try dsimp only at hSw); go_simp; done); (try simp only [Act.put, List.setIfInBounds_toArray, List.set_cons_zero, List.set_cons_succ])) | (refine CalmSeq.cons ?_ (Calm.val (by rfl) ?_) ?_; rotate_left; (intro wC hSw; (try dsimp only at hSw); go_simp; with_reducible rfl); (try simp only [Act.put, List.setIfInBounds_toArray, List.set_cons_zero, List.set_cons_succ])))
        intro w2 hS2
        have hU2 : Up w1 w2 := hS2.1
        clear hS2 hV0
        have hown2 := hown.up hU2
        have hbk2 := hbk.up hU2
        have hb2 : Below w.heap.size w w2 := hb.trans (hU2.mono hwb1)
        have hwb2 : w.heap.size ≤ w2.heap.size := hb2.size
        clear hy0 hy1 hca hcq hcr hl hown hbk
        cases bh
        · have HO := Lib.hid (show onceK xs (k + 1) = onceK xs k ++ [(z : Int)] by rw [onceK_no (by rw [HS.out]; exact of_decide_eq_false HH.out), HS.out])
          have HL3 := Lib.hid (show j + 1 = k + 1 + 1 ∧ l3 + 1 = (onceK xs (k + 1)).length by
            have := hjk.out
            rw [HO.out, List.length_append]; simp; omega)
          have hl20 : l3 + 1 ≤ 20 := by
            have h1 := HL3.out.2
            have h2 := HOL.out (k + 1)
            have h3 := hjk.out.1
            omega
          have hcell := (Blk.new w2 3 #[.int .i64 (z : Int)]).one
          go_wp2_with fail
          refine (l8Has_is hown2.ri hl3' HH.out).mono ?_
          rintro e w3 ⟨rfl, rfl⟩
          go_wp2_with (at_builtin; refine wpList_push rfl (.tmp 37) (.tmp 39) rfl (z : Int) rfl (hown2.alloc _) ⟨w2.heap.size, 0, none⟩ rfl hcell hl3b (by simp; omega) ?_; intro A4 c4 w4 hown4 hb4 hg4)
          have hbk4 := (hown2.alloc (.cells #[.int .i64 (z : Int)] 3)).keeps hg4 (hbk2.alloc (.cells #[.int .i64 (z : Int)] 3)) (by decide)
          have hw4 : Below w.heap.size w w4 := (hb2.alloc hwb2 _).trans hb4
          clear hcell hg4
          go_roundw
          case rel => exact ⟨k + 1, j + 1, l3 + 1, A4, c4, HL3.out, by omega, by go_num, rfl, hl20, by rw [HO.out]; exact hown4, hbk4, hw4⟩
          case measure => simp [intOf]; omega
        · have HO := Lib.hid (show onceK xs (k + 1) = onceK xs k by rw [onceK_yes (by rw [HS.out]; exact of_decide_eq_true HH.out)])
          have HL3 := Lib.hid (show j + 1 = k + 1 + 1 ∧ l3 = (onceK xs (k + 1)).length by
            have := hjk.out
            rw [HO.out]; omega)
          go_wp2_with fail
          refine (l8Has_is hown2.ri hl3' HH.out).mono ?_
          rintro e w3 ⟨rfl, rfl⟩
          go_wp2
          go_roundw
          case rel => exact ⟨k + 1, j + 1, l3, A3, c3, HL3.out, by omega, by go_num, rfl, hl3, by rw [HO.out]; exact hown2, hbk2, hb2⟩
          case measure => simp [intOf]; omega
      · have hjb : j = b.length := by omega
        have HR := Lib.hid (show onceK xs (b.length - 1) = onceK xs k by rw [← hjb, hjk.out.1, Nat.add_sub_cancel])
        have HLn := Lib.hid (show (sortI (onceK xs k)).length = l3 by rw [sortI_len, hjk.out.2])
        have hl31 : l3 ≤ 1048576 := by omega
        have hbs : w.heap.size ≤ wo.heap.size := hb.size
        clear hjb
        go_wp2_with fail
        refine (l8Sorted_any A3 l3 c3 _ wo hown.ri hl31).mono ?_
        rintro e w2 ⟨A2, c2, rfl, hown2, hb2⟩
        have hw2 : Below w.heap.size w w2 := hb.trans (hb2.mono hbs)
        go_wp2
        go_ret
        rw [HR.out]
        exact ⟨A2, c2, by rw [HLn.out]; rfl, by rw [HLn.out]; exact hown2.more hbs, hw2⟩
end Go.Proofs.YthncdjcmlpiebaaGreatDoor
namespace Go.Proofs.YthncdjcmlpiebaaGreatDoor
open Go.RowKit
set_option maxRecDepth 100000 in
theorem sub_lt2 {n S x : Nat} (h : sub x S) (hS : S < 2 ^ n) : x < 2 ^ n := Nat.lt_of_le_of_lt (sub_le h) hS
set_option maxRecDepth 100000 in
set_option maxHeartbeats 1000000 in
theorem implPartOf_any (A : Option Addr) (n c S x : Nat) (Q : List Nat) (w : World) (hX : RI w A n (ints Q)) (h : GOk n Q) (hS : S < 2 ^ n) (hx : sub x S) (h0 : x ≠ 0) :
    Calls Tryz.prog 137 #[.agg #[.int .i64 n, .slice A n c], .int .i64 S, .int .i64 x] w fun e w' => e = .returned (.int .i64 (part Q n S x)) ∧ Below w.heap.size w w' := by
  have hS7 := h.n7 hS
  go_enter Tryz.func137, Tryz.ntmps137
  go_wp2_with fail
  go_loopw [2] (fun v wr => ∃ k : Nat, v = .int .i64 (grow Q S x k) ∧ Blk wr w.heap.size 29 #[.int .i64 n, .slice A n c] ∧ Below w.heap.size w wr) (fun v _ => 128 - (intOf v).toNat)
  case atStart => exact ⟨0, rfl, Blk.new _ _ _, by go_grown⟩
  case round =>
    obtain ⟨k, rfl, hblk, hwr⟩ := hrel
    have hsub := grow_sub (Q := Q) hx k
    have hnext : grow Q S x (k + 1) = step Q S (grow Q S x k) := rfl
    have hfix := part_of_fix (Q := Q) (k := k) h.le hS hx h0
    obtain ⟨y, hy⟩ : ∃ y, y = grow Q S x k := ⟨_, rfl⟩
    rw [← hy] at hsub hnext hfix
    rw [← hy]
    have hy2 := sub_lt2 hsub hS
    have hy7 := h.n7 hy2
    have hor := i64_or7 hy7 (h.n7 (nbrs_lt h y))
    have hand : bits .and .i64 ((y ||| nbrs Q y : Nat) : Int) (S : Int) = ((step Q S y : Nat) : Int) := i64_and7 (h.n7 (around_lt h hy2)) hS7
    have hle := sub_step (Q := Q) hsub
    have hs7 : step Q S y < 128 := Nat.lt_of_le_of_lt (sub_le step_sub) hS7
    have HN := Lib.hid hnext
    have HF := Lib.hid hfix
    clear hy hnext hfix
    obtain ⟨hx0, hx1⟩ := hblk.two
    go_wp2_with fail
    refine (implNeighbors_any A n c y Q _ (hX.up hwr) h hy2).mono ?_
    rintro e w2 ⟨rfl, hb2⟩
    have hw2 := Up.then_ hwr hb2
    have hblk2 := hblk.up hb2
    by_cases e1 : step Q S y = y
    · have H1 := Lib.hid (HF.out e1)
      rw [e1] at hand
      clear e1
      go_wp2
      go_ret
      exact ⟨ret_int (by rw [H1.out]), hw2⟩
    · have hgt := sub_lt hle (Ne.symm e1)
      have hne : (((step Q S y : Nat) : Int) == (y : Int)) = false := by
        rw [beq_eq_false_iff_ne]
        exact fun hh => e1 (Int.ofNat_inj.1 hh)
      clear e1
      go_wp2
      go_roundw
      case rel => exact ⟨k + 1, by rw [HN.out], hblk2, hw2⟩
      case measure => simp [intOf]; omega
set_option maxRecDepth 100000 in
theorem land_neg : ∀ s : Nat, s < 128 → s ≠ 0 → bits .and .i64 (s : Int) (-(s : Int)) = ((low s : Nat) : Int) := by decide
set_option maxRecDepth 100000 in
set_option maxHeartbeats 1000000 in
theorem implParts_any (A : Option Addr) (n c S : Nat) (Q : List Nat) (w : World) (hX : RI w A n (ints Q)) (h : GOk n Q) (hS : S < 2 ^ n) :
    Calls Tryz.prog 98 #[.agg #[.int .i64 n, .slice A n c], .int .i64 S] w (GivesI (ints (partsOf Q n S)) w) := by
  have hS7 := h.n7 hS
  have hown0 : OwnI ((w.alloc (.cells #[.int .i64 n, .slice A n c] 29)).alloc (.cells #[] 3)) w.heap.size (some ⟨w.heap.size + 1, 0, none⟩) 0 0 [] := by
    have hh := OwnI.made (base := w.heap.size) (w.alloc (.cells #[.int .i64 n, .slice A n c] 29)) (by simp)
    have e : (w.alloc (.cells #[.int .i64 n, .slice A n c] 29)).heap.size = w.heap.size + 1 := by simp
    rw [e] at hh
    exact hh
  go_enter Tryz.func98, Tryz.ntmps98
  go_wp2_with fail
  go_loopw [1, 5] (fun i v wr => ∃ (L : Nat) (l : List Nat) (B : Option Addr) (d : Nat), i = .int .i64 L ∧ v = .slice B l.length d ∧ OwnI wr w.heap.size B l.length d (ints l) ∧ Blk wr w.heap.size 29 #[.int .i64 n, .slice A n c] ∧ Below w.heap.size w wr ∧ l.length + L ≤ S ∧ Hid (closed Q S L) ∧ Hid (partsOf Q n S = l ++ partsK Q n S L L)) (fun i _ _ => (intOf i).toNat)
  case atStart => exact ⟨S, [], _, _, rfl, rfl, hown0.cast rfl rfl, (Blk.new w 29 #[.int .i64 n, .slice A n c]).alloc _, by go_grown, by simp, closed_all Q S, rfl⟩
  case round =>
    obtain ⟨L, l, B, d, rfl, rfl, hown, hblk, hwr, hlen, hc, hp⟩ := hrel
    have hL : L < 128 := Nat.lt_of_le_of_lt (sub_le hc.out.1) hS7
    obtain ⟨hx0, hx1⟩ := hblk.two
    by_cases h0 : L = 0
    · subst h0
      have HP := Lib.hid (show partsOf Q n S = l by rw [hp.out]; simp [partsK])
      go_wp2
      go_ret
      rw [HP.out]
      exact givesI_of hown hwr
    · have hlow := low_sub hL h0
      have hln := land_neg L hL h0
      have hL2 := sub_lt2 hc.out.1 hS
      have hcl := Lib.hid (grow_closed hc.out hlow n)
      have hfix := part_fixed (Q := Q) (n := n) h.le hS (sub_trans hlow hc.out.1) (low_ne L)
      have HC := Lib.hid (closed_dif h hS7 hc.out hfix)
      have HP := Lib.hid (partsK_step h hS hc.out h0)
      have hlt := dif_part_lt (n := n) hc.out hS7 h0
      have hp7 : part Q n S (low L) < 128 := Nat.lt_of_le_of_lt (sub_le (grow_sub (sub_trans hlow hc.out.1) n)) hS7
      have hdf := i64_dif7 hL hp7
      have hne : ((L : Int) != 0) = true := by rw [bne_iff_ne]; omega
      clear hfix
      go_wp2_with fail
      refine (implPartOf_any A n c L (low L) Q _ (hX.up hwr) h hL2 hlow (low_ne L)).mono ?_
      rintro e w2 ⟨rfl, hb2⟩
      have hw2 := Up.then_ hwr hb2
      have hblk2 := hblk.up hb2
      have hown2 := hown.up hb2
      have hsz := hw2.size
      have hE : part Q n L (low L) = part Q n S (low L) := hcl.out
      rw [hE]
      clear hE
      obtain ⟨p, hpp⟩ : ∃ p, p = part Q n S (low L) := ⟨_, rfl⟩
      have HPP := Lib.hid hpp
      rw [← hpp] at hlt hp7 hdf
      rw [← hpp]
      clear hpp hln
      have hcell := (Blk.new w2 3 #[.int .i64 (p : Int)]).one
      go_wp2_with (at_builtin; refine wpList_push rfl (.tmp 17) (.tmp 19) rfl (p : Int) rfl (hown2.alloc _) ⟨w2.heap.size, 0, none⟩ rfl hcell (by omega) (by simp; omega) ?_; intro A' c' w5 hown5 hb5 hg5)
      go_roundw
      case rel => exact ⟨dif L p, l ++ [p], A', c', rfl, by rw [← push_len], hown5.cast (by rw [← push_len]) (by rw [ints_snoc]), (hown2.alloc _).keeps hg5 (hblk2.alloc _) (by decide), (hw2.alloc hsz _).trans hb5, by simp; omega, by rw [HPP.out]; exact HC.out, by rw [hp.out, HP.out, HPP.out, List.append_assoc]; rfl⟩
      case measure => simp [intOf]; omega
end Go.Proofs.YthncdjcmlpiebaaGreatDoor
namespace Go.Proofs.YthncdjcmlpiebaaGreatDoor
open Go.RowKit
set_option maxRecDepth 100000 in
set_option maxHeartbeats 1000000 in
theorem l3Grow_any (A : Option Addr) (n c S x : Nat) (Q : List Nat) (w : World) (hX : RI w A n (ints Q)) (h : GOk n Q) (hS : S < 2 ^ n) (hx : sub x S) :
    Calls Tryz.prog 138 #[.agg #[.int .i64 n, .slice A n c], .int .i64 x, .int .i64 S] w fun e w' => e = .returned (.int .i64 (part Q n S x)) ∧ Below w.heap.size w w' := by
  have hS7 := h.n7 hS
  have hn7 := h.le
  go_enter Tryz.func138, Tryz.ntmps138
  go_wp2_with fail
  go_loopw [7, 8] (fun v i wr => ∃ k : Nat, k ≤ n ∧ i = .int .i64 k ∧ v = .int .i64 (grow Q S x k) ∧ Blk wr w.heap.size 29 #[.int .i64 n, .slice A n c] ∧ Below w.heap.size w wr) (fun _ i _ => n - (intOf i).toNat)
  case atStart => exact ⟨0, Nat.zero_le _, rfl, rfl, Blk.new _ _ _, by go_grown⟩
  case round =>
    obtain ⟨k, hk, rfl, rfl, hblk, hwr⟩ := hrel
    have hsub := grow_sub (Q := Q) hx k
    obtain ⟨hx0, hx1⟩ := hblk.two
    by_cases hlt : k < n
    · have HN := Lib.hid (show grow Q S x (k + 1) = step Q S (grow Q S x k) from rfl)
      obtain ⟨y, hy⟩ : ∃ y, y = grow Q S x k := ⟨_, rfl⟩
      rw [← hy] at hsub HN
      rw [← hy]
      have hy2 := sub_lt2 hsub hS
      have hand : bits .and .i64 ((around Q y : Nat) : Int) (S : Int) = ((step Q S y : Nat) : Int) := i64_and7 (h.n7 (around_lt h hy2)) hS7
      clear hy
      go_wp2_with fail
      refine (specAround_any A n c y Q _ (hX.up hwr) h hy2).mono ?_
      rintro e w2 ⟨rfl, hb2⟩
      have hw2 := Up.then_ hwr hb2
      have hblk2 := hblk.up hb2
      go_wp2
      go_roundw
      case rel => exact ⟨k + 1, by omega, by go_num, by rw [HN.out], hblk2, hw2⟩
      case measure => simp [intOf]; omega
    · obtain rfl : k = n := by omega
      go_wp2
      go_ret
      exact ⟨ret_int (by rfl), hwr⟩
set_option maxRecDepth 100000 in
theorem dif_add {a b : Nat} (h : sub b a) : dif a b + b = a := by
  have hd : dif a b &&& b = 0 := by
    apply Nat.eq_of_testBit_eq
    intro i
    rw [Nat.testBit_and, testBit_dif, Nat.zero_testBit]
    cases b.testBit i <;> simp
  rw [add_of_and hd]
  apply Nat.eq_of_testBit_eq
  intro i
  rw [Nat.testBit_or, testBit_dif]
  have := h i
  revert this
  cases a.testBit i <;> cases b.testBit i <;> simp
set_option maxRecDepth 100000 in
theorem listOf_posD : ∀ s : Nat, s < 128 → s ≠ 0 → 0 < (listOf s).length := by decide
set_option maxRecDepth 100000 in
set_option maxHeartbeats 1000000 in
theorem specPartsOf_any (A : Option Addr) (n c S : Nat) (Q : List Nat) (w : World) (hX : RI w A n (ints Q)) (h : GOk n Q) (hS : S < 2 ^ n) :
    Calls Tryz.prog 101 #[.agg #[.int .i64 n, .slice A n c], .int .i64 S] w (GivesI (ints (partsOf Q n S)) w) := by
  have hS7 := h.n7 hS
  have hown0 : OwnI ((w.alloc (.cells #[.int .i64 n, .slice A n c] 29)).alloc (.cells #[] 3)) w.heap.size (some ⟨w.heap.size + 1, 0, none⟩) 0 0 [] := by
    have hh := OwnI.made (base := w.heap.size) (w.alloc (.cells #[.int .i64 n, .slice A n c] 29)) (by simp)
    have e : (w.alloc (.cells #[.int .i64 n, .slice A n c] 29)).heap.size = w.heap.size + 1 := by simp
    rw [e] at hh
    exact hh
  go_enter Tryz.func101, Tryz.ntmps101
  go_wp2_with fail
  go_loopw [6, 5] (fun i v wr => ∃ (L : Nat) (l : List Nat) (B : Option Addr) (d : Nat), i = .int .i64 L ∧ v = .slice B l.length d ∧ OwnI wr w.heap.size B l.length d (ints l) ∧ Blk wr w.heap.size 29 #[.int .i64 n, .slice A n c] ∧ Below w.heap.size w wr ∧ l.length + L ≤ S ∧ Hid (closed Q S L) ∧ Hid (partsOf Q n S = l ++ partsK Q n S L L)) (fun i _ _ => (intOf i).toNat)
  case atStart => exact ⟨S, [], _, _, rfl, rfl, hown0.cast rfl rfl, (Blk.new w 29 #[.int .i64 n, .slice A n c]).alloc _, by go_grown, by simp, closed_all Q S, rfl⟩
  case round =>
    obtain ⟨L, l, B, d, rfl, rfl, hown, hblk, hwr, hlen, hc, hp⟩ := hrel
    have hL : L < 128 := Nat.lt_of_le_of_lt (sub_le hc.out.1) hS7
    obtain ⟨hx0, hx1⟩ := hblk.two
    by_cases h0 : L = 0
    · subst h0
      have HP := Lib.hid (show partsOf Q n S = l by rw [hp.out]; simp [partsK])
      go_wp2
      go_ret
      rw [HP.out]
      exact givesI_of hown hwr
    · have hlow := low_sub hL h0
      have hlowS := sub_trans hlow hc.out.1
      have hE := Lib.hid (grow_closed hc.out hlow n)
      have hfix := part_fixed (Q := Q) (n := n) h.le hS hlowS (low_ne L)
      have HC := Lib.hid (closed_dif h hS7 hc.out hfix)
      have HP := Lib.hid (partsK_step h hS hc.out h0)
      have hlt := dif_part_lt (n := n) hc.out hS7 h0
      have hsubL : sub (part Q n S (low L)) L := by
        have e : part Q n S (low L) = grow Q L (low L) n := hE.out.symm
        rw [e]; exact grow_sub hlow n
      have hda := dif_add hsubL
      have hpos := listOf_posD L hL h0
      have hll := listOf_len L
      have hLp : 0 < L := by omega
      clear hfix hsubL
      go_wp2_with fail
      refine (specIsSet_ok (hX.up hwr) h hS).mono ?_
      rintro e w2 ⟨rfl, hb2⟩
      have hw2 := Up.then_ hwr hb2
      have hblk2 := hblk.up hb2
      have hown2 := hown.up hb2
      go_wp2_with fail
      refine (specListOf_any L _ hL).mono ?_
      intro e w3 hg
      obtain ⟨G, dd, rfl, hownl, hb3⟩ := hg.out
      clear hg
      have hw3 := Up.then_ hw2 hb3
      have hblk3 := hblk2.up hb3
      have hown3 := hown2.up hb3
      obtain ⟨gad, rfl, hgc⟩ := hownl.ri.list_at hpos
      obtain ⟨gg, cap, hgv, _, _⟩ := World.ownsRow.form hownl hpos
      simp only [Value.slice.injEq, Option.some.injEq] at hgv
      obtain ⟨rfl, _⟩ := hgv
      replace hgc : w3.cell? ⟨gg, 0, none⟩ = some (.int .i64 (nb (listOf L) 0)) := hgc
      have hv7 := (nb_list hpos).1
      have hv62 : nb (listOf L) 0 ≤ 62 := by omega
      have hsh := shl_p2 hv62
      have hlo : low L = p2 (nb (listOf L) 0) := rfl
      rw [← hlo] at hsh
      obtain ⟨v, hv⟩ : ∃ v, v = nb (listOf L) 0 := ⟨_, rfl⟩
      rw [← hv] at hgc hsh hv62 hv7
      clear hlo hv
      obtain ⟨p, hpp⟩ : ∃ p, p = part Q n S (low L) := ⟨_, rfl⟩
      have HPP := Lib.hid hpp
      obtain ⟨q, hq⟩ : ∃ q, q = low L := ⟨_, rfl⟩
      have hpq : part Q n S q = p := by rw [hq, hpp]
      rw [← hpp] at hlt hda
      rw [← hq] at hsh hlowS
      clear hpp hq hlow
      clear hx0 hx1
      obtain ⟨hx0, hx1⟩ := hblk3.two
      have hbl := hblk3.lt
      have hX3 := hX.up hw3
      have hsh2 : IntKind.i64.wrap ((2 : Int) ^ v) = (q : Int) := by rw [IntWalk.i64_left]; exact hsh
      have hsh3 : IntKind.i64.wrap (1 * (2 : Int) ^ v) = (q : Int) := by rw [Int.one_mul]; rw [IntWalk.i64_left]; exact hsh
      go_wp2
      have hU0 : Up w3 w3.drew := (Up.refl _).drew
      go_region_held3 (fun w' => Up w3 w' ∧ ∀ b o, b < w3.heap.size → w'.cell? ⟨b, o, none⟩ = w3.cell? ⟨b, o, none⟩) (first | exact upk hU1 | exact upk hU0)
        (first | (go_at_call 138; refine (l3Grow_any A n c S q Q _ (hX3.up hU0) h hS hlowS).mono ?_; rintro e w4 ⟨rfl, hb4⟩; have hU1 := Up.then_ hU0 hb4))
      have hw4 := Up.then_ hw3 hU1
      have hblk4 := hblk3.up hU1
      have hown4 := hown3.up hU1
      have hsz := hw4.size
      clear hpq hsh2 hsh3
      have hcell := (Blk.new w4 3 #[.int .i64 (p : Int)]).one
      have hsub : (L : Int) - (p : Int) = ((dif L p : Nat) : Int) := by omega
      have HSub := Lib.hid hsub
      clear hsub
      go_wp2_with (at_builtin; refine wpList_push rfl (.tmp 27) (.tmp 29) rfl (p : Int) rfl (hown4.alloc _) ⟨w4.heap.size, 0, none⟩ rfl hcell (by omega) (by simp; omega) ?_; intro A' c' w5 hown5 hb5 hg5)
      go_roundw
      case rel => exact ⟨dif L p, l ++ [p], A', c', by rw [HSub.out], by rw [← push_len], hown5.cast (by rw [← push_len]) (by rw [ints_snoc]), (hown4.alloc _).keeps hg5 (hblk4.alloc _) (by decide), (hw4.alloc hsz _).trans hb5, by simp; omega, by rw [HPP.out]; exact HC.out, by rw [hp.out, HP.out, HPP.out, List.append_assoc]; rfl⟩
      case measure => simp [intOf]; omega
end Go.Proofs.YthncdjcmlpiebaaGreatDoor
namespace Go.Proofs.YthncdjcmlpiebaaGreatDoor
open Go.RowKit
set_option maxRecDepth 100000 in
theorem rest_val {n s : Nat} (h7 : n ≤ 7) (hs : s < 128) : bits .andNot .i64 ((p2 n - 1 : Nat) : Int) (s : Int) = ((restOf n s : Nat) : Int) := i64_dif7 (by have := p2_le h7; omega) hs
set_option maxRecDepth 100000 in
theorem mem_at {l : List Nat} {j : Nat} (h : j < l.length) : nb l j ∈ l := by rw [nb]; simp [List.getD, List.getElem?_eq_getElem h]
set_option maxRecDepth 100000 in
theorem part_in {Q : List Nat} {n s j : Nat} (h7 : n ≤ 7) (h : j < (partsOf Q n (restOf n s)).length) : sub (nb (partsOf Q n (restOf n s)) j) (restOf n s) :=
  mem_partsK (fun _ hi => hi) (Nat.lt_of_lt_of_le rest_lt (Nat.pow_le_pow_right (n := 2) (by omega) h7)) (mem_at h)
set_option maxRecDepth 100000 in
theorem partsK_len (Q : List Nat) (n S : Nat) : ∀ f L, (partsK Q n S f L).length ≤ f
  | 0, _ => Nat.le_refl _
  | f + 1, L => by
    rw [partsK]
    split
    · simp
    · have := partsK_len Q n S f (dif L (part Q n S (low L)))
      simp; omega
set_option maxRecDepth 100000 in
theorem partsOf_len {n S : Nat} {Q : List Nat} (h : GOk n Q) (hS : S < 2 ^ n) : (partsOf Q n S).length ≤ 128 := Nat.le_trans (partsK_len Q n S S S) (Nat.le_of_lt (h.n7 hS))
set_option maxRecDepth 100000 in
set_option maxHeartbeats 1000000 in
theorem implIsMinimalSeparator_ok (A : Option Addr) (n c s : Nat) (Q : List Nat) (w : World) (hX : RI w A n (ints Q)) (h : GOk n Q) (hs : s < 2 ^ n) :
    Calls Tryz.prog 48 #[.agg #[.int .i64 n, .slice A n c], .int .i64 s] w fun e w' => e = .returned (.bool (minSep Q n s)) ∧ Below w.heap.size w w' := by
  have hs7 := h.n7 hs
  have hn7 := h.le
  have hq := rest_val hn7 hs7
  have hr2 := rest_lt (n := n) (s := s)
  have hin := fun j hj => part_in (Q := Q) (n := n) (s := s) (j := j) hn7 hj
  obtain ⟨q, hqq⟩ : ∃ q, q = restOf n s := ⟨_, rfl⟩
  have HM := Lib.hid (show minSep Q n s = decide (2 ≤ full Q s (partsOf Q n q)) by rw [hqq]; rfl)
  rw [← hqq] at hq hr2 hin
  clear hqq
  have Hin := Lib.hid hin
  clear hin
  go_enter Tryz.func48, Tryz.ntmps48
  go_wp2_with fail
  refine (implIsSet_ok (hX.up (by go_grown)) h hs).mono ?_
  rintro e w1 ⟨rfl, hb1⟩
  have hw1 : Below w.heap.size w w1 := Up.then_ (by go_grown) hb1
  obtain ⟨hc1, hf1⟩ := bcell hb1
  have hz1 := hb1.size
  try simp only [World.size_alloc] at hz1
  try simp only [World.size_setCell] at hz1
  try simp only [World.size_alloc] at hz1
  try simp only [World.size_drew] at hz1
  have hl1_0 : w.heap.size < w1.heap.size := by omega
  have hblk0 := (Blk.new w 29 #[.int .i64 n, .slice A n c]).up hb1
  clear hc1 hf1
  obtain ⟨hx0, hx1⟩ := hblk0.two
  have hbl := hblk0.lt
  have hX1 := hX.up hw1
  go_wp2
  have hU0 : Up w1 w1.drew := (Up.refl _).drew
  go_region_held3 (fun w' => Up w1 w' ∧ ∀ b o, b < w1.heap.size → w'.cell? ⟨b, o, none⟩ = w1.cell? ⟨b, o, none⟩) (first | exact upk hU2 | exact upk hU1 | exact upk hU0)
    (first | (go_at_call 92; refine (all_any n A c n _ hn7).mono ?_; rintro e w2 ⟨rfl, hb2⟩; have hU1 := Up.then_ hU0 hb2) | (go_at_call 98; refine ((implParts_any A n c q Q _ (hX1.up hU1) h hr2).mono fun e w' hg => hg.out).mono ?_; rintro e w3 ⟨B, d, rfl, hown, hb3⟩; have hU2 := Up.then_ hU1 hb3))
  have hw3 := Up.then_ hw1 hU2
  have hblk3 := hblk0.up hU2
  have hri0 := hown.ri
  have hX3 := hX.up hw3
  obtain ⟨l, hl⟩ : ∃ l, l = partsOf Q n q := ⟨_, rfl⟩
  rw [← hl] at hri0 HM Hin
  rw [← hl]
  have hlen : l.length ≤ 128 := by rw [hl]; exact partsOf_len h hr2
  clear hown hl hx0 hx1 hbl hq
  go_wp2_with fail
  go_loopw [5, 19] (fun v i wr => ∃ k : Nat, k ≤ l.length ∧ i = .int .i64 k ∧ v = .int .i64 (full Q s (l.take k)) ∧ Below w3.heap.size w3 wr) (fun _ i _ => l.length - (intOf i).toNat)
  case atStart => exact ⟨0, Nat.zero_le _, rfl, rfl, Below.refl _ _⟩
  case round =>
    obtain ⟨k, hk, rfl, rfl, hb⟩ := hrel
    have hblk := hblk3.up hb
    have hwr := Up.then_ hw3 hb
    obtain ⟨hx0, hx1⟩ := hblk.two
    by_cases hlt : k < l.length
    · obtain ⟨b, rfl, hcb⟩ := (hri0.up hb).list_at hlt
      have hp2 := sub_lt2 (Hin.out k hlt) hr2
      have hf := full_take (Q := Q) (s := s) hlt
      have hfl := full_len Q s (l.take k)
      have hdf := i64_dif7 hs7 (h.n7 (nbrs_lt h (nb l k)))
      rw [List.length_take] at hfl
      go_wp2_with fail
      refine (implNeighbors_any A n c (nb l k) Q _ (hX3.up hb) h hp2).mono ?_
      rintro e w4 ⟨rfl, hb4⟩
      by_cases hd : dif s (nbrs Q (nb l k)) = 0
      · have HF := Lib.hid (hf.trans (by rw [if_pos (show sees Q s (l.getD k 0) = true from beq_iff_eq.2 hd)]))
        rw [hd] at hdf
        clear hd hf
        go_wp2
        go_roundw
        case rel => exact ⟨k + 1, by omega, by go_num, by rw [HF.out]; go_num, Up.then_ hb hb4⟩
        case measure => simp [intOf]; omega
      · have HF := Lib.hid (hf.trans (by rw [if_neg (show ¬ sees Q s (l.getD k 0) = true from fun e => hd (beq_iff_eq.1 e))]))
        have hne : (((dif s (nbrs Q (nb l k)) : Nat) : Int) == 0) = false := by rw [beq_eq_false_iff_ne]; omega
        clear hd hf
        go_wp2
        go_roundw
        case rel => exact ⟨k + 1, by omega, by go_num, by rw [HF.out]; rfl, Up.then_ hb hb4⟩
        case measure => simp [intOf]; omega
    · obtain rfl : k = l.length := by omega
      go_wp2
      go_ret
      exact ⟨ret_bool (by rw [HM.out]; exact decide_eq_decide.2 (by omega)), hwr⟩
end Go.Proofs.YthncdjcmlpiebaaGreatDoor
