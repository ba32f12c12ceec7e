/- Walks of chapter 13: the region in which the program's OrientationOf makes its copy of the graph and its orientation: each operation once, in whatever order. -/
import Derived.Test.YtlcmfangecbdgaaW13o
import Derived.Test.YtlcmfangecbdgaaAny
namespace Go.Proofs.Ytlcmfangecbdgaa
open Go.RowKit
theorem arr_ext {xs ys : Array Value} (hs : xs.size = ys.size) (h : ∀ k, xs.getD k undef = ys.getD k undef) : xs = ys := by
  refine Array.ext hs fun i h1 h2 => ?_
  have := h i
  simpa [Array.getD, h1, h2] using this
theorem put_getD (a : Act) {d : Nat} (v : Value) (k : Nat) (hd : d < a.tmps.size) : (a.put (some d) v).tmps.getD k undef = if k = d then v else a.tmps.getD k undef := by
  unfold Act.put
  by_cases e : d = k
  · subst e; simp [hd]
  · rw [if_neg fun h => e h.symm]
    simp [e]
theorem putA_size (a : Act) (d : Option Tmp) (v : Value) : (a.put d v).tmps.size = a.tmps.size := by unfold Act.put; split <;> simp
theorem putA_defers (a : Act) (d : Option Tmp) (v : Value) : (a.put d v).defers = a.defers := by unfold Act.put; split <;> rfl
theorem act_ext {a b : Act} (h1 : a.tmps = b.tmps) (h2 : a.defers = b.defers) : a = b := by cases a; cases b; simp at h1 h2; rw [h1, h2]
def sigO (o : Oper) : Option Tmp × Op × TypeId × Option (Nat × Bool) := (o.dst, o.op, o.type, o.guard)
/-- What operation number j has done: T is what the temporaries hold. -/
def oriF (N : Int) (n c : Nat) (A : Option Addr) (X : List Int) (w W : World) (T : Nat → Value) (wx : World) : Nat → Prop
  | 0 => T 15 = .agg #[.int .i64 N, .slice A n c]
  | 1 => ∃ B d, T 16 = .agg #[.int .i64 N, .slice B n d] ∧ OwnI wx W.heap.size B n d X
  | 2 => T 17 = .pointer (some ⟨w.heap.size, 1, none⟩)
  | 3 => T 18 = .slice A n c
  | 4 => T 19 = .int .i64 n
  | 5 => ∃ gT, T 20 = .slice (some ⟨gT, 0, none⟩) n n ∧ W.heap.size ≤ gT ∧ Blk wx gT 3 (zeros n)
  | 6 => T 21 = .agg #[T 20]
  | 7 => ∃ bH x y, T 4 = .pointer (some ⟨bH, 0, none⟩) ∧ W.heap.size ≤ bH ∧ Blk wx bH 27 #[x, y]
  | 8 => ∃ bT x, T 5 = .pointer (some ⟨bT, 0, none⟩) ∧ W.heap.size ≤ bT ∧ Blk wx bT 61 #[x]
  | 9 => ∃ bH B d, T 4 = .pointer (some ⟨bH, 0, none⟩) ∧ T 16 = .agg #[.int .i64 N, .slice B n d] ∧ Blk wx bH 27 #[.int .i64 N, .slice B n d]
  | 10 => ∃ bT, T 5 = .pointer (some ⟨bT, 0, none⟩) ∧ Blk wx bT 61 #[T 20]
  | _ => True
def oriS : Nat → List Nat
  | 0 => [15]
  | 1 => [16]
  | 2 => [17]
  | 3 => [18]
  | 4 => [19]
  | 5 => [20]
  | 6 => [20, 21]
  | 7 => [4]
  | 8 => [5]
  | 9 => [4, 16]
  | 10 => [5, 20]
  | _ => []
theorem oriS_mem {d : Nat} : ∀ {j}, d ∈ oriS j → (d = 15 ∧ j = 0) ∨ (d = 16 ∧ (j = 1 ∨ j = 9)) ∨ (d = 17 ∧ j = 2) ∨ (d = 18 ∧ j = 3) ∨ (d = 19 ∧ j = 4) ∨ (d = 20 ∧ (j = 5 ∨ j = 6 ∨ j = 10)) ∨ (d = 21 ∧ j = 6) ∨ (d = 4 ∧ (j = 7 ∨ j = 9)) ∨ (d = 5 ∧ (j = 8 ∨ j = 10))
  | 0, h | 1, h | 2, h | 3, h | 4, h | 5, h | 6, h | 7, h | 8, h | 9, h | 10, h => by simp [oriS] at h; omega
  | _ + 11, h => by simp [oriS] at h
section
variable {N : Int} {n c : Nat} {A : Option Addr} {X : List Int} {w W : World} {T T' : Nat → Value} {wx wx' : World}
theorem oriF_keep (hu : Up wx wx') : ∀ j, (∀ k ∈ oriS j, T' k = T k) → oriF N n c A X w W T wx j → oriF N n c A X w W T' wx' j
  | 0, hk, h => (hk 15 (by simp [oriS])).trans h
  | 1, hk, ⟨B, d, h1, h2⟩ => ⟨B, d, (hk 16 (by simp [oriS])).trans h1, h2.up hu⟩
  | 2, hk, h => (hk 17 (by simp [oriS])).trans h
  | 3, hk, h => (hk 18 (by simp [oriS])).trans h
  | 4, hk, h => (hk 19 (by simp [oriS])).trans h
  | 5, hk, ⟨g, h1, h2, h3⟩ => ⟨g, (hk 20 (by simp [oriS])).trans h1, h2, h3.up hu⟩
  | 6, hk, h => by
    have h' : T 21 = .agg #[T 20] := h
    show T' 21 = .agg #[T' 20]
    rw [hk 21 (by simp [oriS]), hk 20 (by simp [oriS]), h']
  | 7, hk, ⟨b, x, y, h1, h2, h3⟩ => ⟨b, x, y, (hk 4 (by simp [oriS])).trans h1, h2, h3.up hu⟩
  | 8, hk, ⟨b, x, h1, h2, h3⟩ => ⟨b, x, (hk 5 (by simp [oriS])).trans h1, h2, h3.up hu⟩
  | 9, hk, ⟨b, B, d, h1, h2, h3⟩ => ⟨b, B, d, (hk 4 (by simp [oriS])).trans h1, (hk 16 (by simp [oriS])).trans h2, h3.up hu⟩
  | 10, hk, ⟨b, h1, h2⟩ => ⟨b, (hk 5 (by simp [oriS])).trans h1, by rw [hk 20 (by simp [oriS])]; exact h2.up hu⟩
  | _ + 11, _, _ => trivial
/-- The copy's rows and the orientation's are apart. -/
def oriN (N : Int) (n : Nat) (T : Nat → Value) : Prop := ∀ B d gT g, T 16 = .agg #[.int .i64 N, .slice B n d] → T 20 = .slice (some ⟨gT, 0, none⟩) n n → (Value.slice B n d).ownBlock = some g → g ≠ gT
structure OriInv (N : Int) (n c : Nat) (A : Option Addr) (X : List Int) (w W : World) (a0 : Act) (listed : Array Bool) (a : Act) (wx : World) : Prop where
  lsz : listed.size = 11
  sz : a.tmps.size = a0.tmps.size
  df : a.defers = a0.defers
  fr : ∀ k, k ∉ [4, 5, 15, 16, 17, 18, 19, 20, 21] → a.tmps.getD k undef = a0.tmps.getD k undef
  up : Up W wx
  bk : Blk wx w.heap.size 27 #[.int .i64 N, .slice A n c]
  br : Blk wx (w.heap.size + 1) 61 #[.slice none 0 0]
  fs : ∀ j, listed.getD j false = true → oriF N n c A X w W (fun k => a.tmps.getD k undef) wx j
  nn : listed.getD 1 false = true → listed.getD 5 false = true → oriN N n fun k => a.tmps.getD k undef
/-- An operation that leaves all that was there as it was. -/
theorem OriInv.step {a0 : Act} {listed : Array Bool} {a : Act} {d i : Nat} {v : Value} (h : OriInv N n c A X w W a0 listed a wx) (hu : Up wx wx') (hd : d ∈ [4, 5, 15, 16, 17, 18, 19, 20, 21]) (hlt : 21 < a0.tmps.size)
    (hun : ∀ j, j ≠ i → d ∈ oriS j → listed.getD j false = true → False) (hf : oriF N n c A X w W (fun k => (a.put (some d) v).tmps.getD k undef) wx' i)
    (hn : (listed.setIfInBounds i true).getD 1 false = true → (listed.setIfInBounds i true).getD 5 false = true → oriN N n fun k => (a.put (some d) v).tmps.getD k undef) :
    OriInv N n c A X w W a0 (listed.setIfInBounds i true) (a.put (some d) v) wx' := by
  have hda : d < a.tmps.size := by rw [h.sz]; simp at hd; omega
  refine ⟨by simp [h.lsz], (putA_size _ _ _).trans h.sz, (putA_defers _ _ _).trans h.df, fun k hk => ?_, Up.then_ h.up hu, h.bk.up hu, h.br.up hu, fun j hj => ?_, hn⟩
  · rw [put_getD _ _ _ hda, if_neg (fun e => hk (by rw [e]; exact hd))]; exact h.fr k hk
  · by_cases e : j = i
    · subst e; exact hf
    · have hj' := (getD_set_cases hj).resolve_left e
      refine oriF_keep hu j (fun k hk => ?_) (h.fs j hj')
      rw [put_getD _ _ _ hda, if_neg]
      rintro rfl
      exact hun j e hk hj'
end
theorem oriNF {N : Int} {n : Nat} {T T' : Nat → Value} (h : oriN N n T) (h1 : T' 16 = T 16) (h2 : T' 20 = T 20) : oriN N n T' := fun B d gT g e1 e2 => h B d gT g (h1.symm.trans e1) (h2.symm.trans e2)
theorem copyGraph_n' (N : Int) (A : Option Addr) (n c : Nat) (X : List Int) (w : World) (hX : RI w A n X) (hn : n ≤ 1048576) :
    Calls Try.prog 89 #[.agg #[.int .i64 N, .slice A n c]] w fun e w' => ∃ B d, e = .returned (.agg #[.int .i64 N, .slice B n d]) ∧ OwnI w' w.heap.size B n d X ∧ Below w.heap.size w w' := by
  refine (copyGraph_any N A n c X w hX hn).mono ?_
  rintro e w' ⟨B, d, rfl, hown, hb⟩
  rw [hX.1] at hown ⊢
  exact ⟨B, d, rfl, hown, hb⟩
def oriOps : List (Option Tmp × Op × TypeId × Option (Nat × Bool)) := [
  (some 15, .load 27 (.tmp 1), 27, none),
  (some 16, .call { callee := .value (.func 89), args := #[.tmp 15], argTypes := #[27] }, 27, none),
  (some 17, .fieldAddr 27 (.tmp 1) 1, 0, none),
  (some 18, .load 22 (.tmp 17), 22, none),
  (some 19, .call { callee := .builtin .len, args := #[.tmp 18], argTypes := #[22] }, 3, none),
  (some 20, .makeSlice 22 (.tmp 19) (.tmp 19), 22, none),
  (some 21, .build 61 #[(0, .tmp 20)], 61, none),
  (some 4, .alloc 27, 0, none),
  (some 5, .alloc 61, 0, none),
  (none, .store 27 (.tmp 4) (.tmp 16), 0, none),
  (none, .store 61 (.tmp 5) (.tmp 21), 0, none)]
set_option maxRecDepth 100000 in
set_option maxHeartbeats 1000000 in
theorem oriRegion {id : Nat} {ops : Array Oper} {Q : Exit → Act → World → Prop} (N : Int) (A : Option Addr) (n c : Nat) (X : List Int) (w W : World) (a0 : Act) (hX : RI W A n X) (hn : n ≤ 1048576)
    (hbk : Blk W w.heap.size 27 #[.int .i64 N, .slice A n c]) (hbr : Blk W (w.heap.size + 1) 61 #[.slice none 0 0]) (hlw : w.heap.size + 2 ≤ W.heap.size)
    (ht1 : a0.tmps.getD 1 undef = .pointer (some ⟨w.heap.size, 0, none⟩)) (hlt : 21 < a0.tmps.size)
    (hops : ops.toList.map sigO = oriOps) (hb : backB .any ops = true) (hw : ([(1, 0), (3, 2), (4, 3), (5, 4), (6, 5), (9, 7), (9, 1), (10, 8), (10, 5), (10, 6)].all fun p => Region.waitsFor .any ops p.1 p.2) = true)
    (hQ : ∀ (bH bT gT d : Nat) (B : Option Addr) (wx : World), Blk wx bH 27 #[.int .i64 N, .slice B n d] → OwnI wx W.heap.size B n d X → Blk wx bT 61 #[.slice (some ⟨gT, 0, none⟩) n n] → Blk wx gT 3 (zeros n) →
      (∀ g, (Value.slice B n d).ownBlock = some g → g ≠ gT) → W.heap.size ≤ bH → W.heap.size ≤ bT → W.heap.size ≤ gT → Up W wx →
      Q .normal (((((((((a0.put (some 15) (.agg #[.int .i64 N, .slice A n c])).put (some 16) (.agg #[.int .i64 N, .slice B n d])).put (some 17) (.pointer (some ⟨w.heap.size, 1, none⟩))).put (some 18) (.slice A n c)).put (some 19) (.int .i64 n)).put (some 20) (.slice (some ⟨gT, 0, none⟩) n n)).put (some 21) (.agg #[.slice (some ⟨gT, 0, none⟩) n n])).put (some 4) (.pointer (some ⟨bH, 0, none⟩))).put (some 5) (.pointer (some ⟨bT, 0, none⟩))) wx) :
    (Code.region id ops true).wp Try.prog Q a0 W := by
  have hsz : ops.size = 11 := by have := congrArg List.length hops; simpa [oriOps] using this
  have hW : ∀ p ∈ [(1, 0), (3, 2), (4, 3), (5, 4), (6, 5), (9, 7), (9, 1), (10, 8), (10, 5), (10, 6)], Region.waitsFor .any ops p.1 p.2 = true := fun p hp => List.all_eq_true.1 hw p hp
  have hmk := make_ints n hn
  refine wp_region_inv (Inv := OriInv N n c A X w W a0) (by kernel_rfl) hb ?_ ?_ ?_
  · rw [hsz]
    exact ⟨by simp, rfl, rfl, fun _ _ => rfl, (Up.refl _).drew, hbk.drew, hbr.drew, fun j hj => (by rw [getD_replicate_false] at hj; cases hj), fun hj => (by rw [getD_replicate_false] at hj; cases hj)⟩
  · intro listed a wx i o h hcl ho hun hdep K' hK
    have hsig : oriOps[i]? = some (sigO o) := by
      rw [← hops, List.getElem?_map, Array.getElem?_toList, ho]; rfl
    have hi : i < 11 := by have := (Array.getElem?_eq_some_iff.1 ho).1; omega
    have hwant : o.guard = none → Region.wanted o (yielded ops a.tmps) = true := fun hg => by simp [Region.wanted, hg]
    have e1 : a.tmps.getD 1 undef = .pointer (some ⟨w.heap.size, 0, none⟩) := (h.fr 1 (by simp)).trans ht1
    have ye := h.bk.two
    have hda : ∀ (d : Nat) v (k : Nat), d ≤ 21 → (a.put (some d) v).tmps.getD k undef = if k = d then v else a.tmps.getD k undef := fun d v k hd => put_getD a v k (by rw [h.sz]; omega)
    have hF := fun j (hj : Region.waitsFor .any ops i j = true) => h.fs j (hdep j hj)
    have hno : ∀ j, Region.waitsFor .any ops j i = true → listed.getD j false = true → False := fun j hj hl => by
      have := hcl j i hj hl
      rw [getD_both hun] at this
      cases this
    obtain rfl | rfl | rfl | rfl | rfl | rfl | rfl | rfl | rfl | rfl | rfl : i = 0 ∨ i = 1 ∨ i = 2 ∨ i = 3 ∨ i = 4 ∨ i = 5 ∨ i = 6 ∨ i = 7 ∨ i = 8 ∨ i = 9 ∨ i = 10 := by omega
    all_goals
      obtain ⟨dst, op, ty, pos, aft, gd⟩ := o
      simp only [oriOps, sigO, List.getElem?_cons_zero, List.getElem?_cons_succ, Option.some.injEq, Prod.mk.injEq] at hsig
      obtain ⟨rfl, rfl, rfl, rfl⟩ := hsig
      rw [if_pos (hwant rfl)]
      clear hwant ho
    · skip
      go_simp
      exact hK (a.put (some 15) (.agg #[.int .i64 N, .slice A n c])) wx (h.step (d := 15) (Up.refl _) (by simp) hlt (fun j hj hk hl => by have := oriS_mem hk; omega) ((hda 15 _ 15 (by decide)).trans (if_pos rfl)) (fun h1 h5 => oriNF (h.nn ((getD_set_cases h1).resolve_left (by decide)) ((getD_set_cases h5).resolve_left (by decide))) ((hda 15 _ 16 (by decide)).trans (if_neg (by decide))) ((hda 15 _ 20 (by decide)).trans (if_neg (by decide)))))
    · have e0 : a.tmps.getD 15 undef = _ := hF 0 (hW (1, 0) (by simp))
      go_simp
      refine (copyGraph_n' N A n c X wx (hX.up h.up) hn).mono ?_
      rintro e w2 ⟨B, d, rfl, hO, hb2⟩
      go_simp
      have hsu := h.up.size
      refine hK (a.put (some 16) (.agg #[.int .i64 N, .slice B n d])) _ (h.step (d := 16) hb2 (by simp) hlt (fun j hj hk hl => by have hm := oriS_mem hk; have e9 : j = 9 := (by omega); subst e9; exact hno 9 (hW (9, 1) (by simp)) hl) ⟨B, d, (hda 16 _ 16 (by decide)).trans (if_pos rfl), hO.more hsu⟩ (fun _ h5 => ?_))
      intro B' d' gT g e1' e2' hg
      replace e1' := ((hda 16 _ 16 (by decide)).trans (if_pos rfl)).symm.trans e1'
      replace e2' := ((hda 16 (.agg #[.int .i64 N, .slice B n d]) 20 (by decide)).trans (if_neg (by decide))).symm.trans e2'
      obtain ⟨gT', e3, _, hM⟩ := h.fs 5 ((getD_set_cases h5).resolve_left (by decide))
      have e4 : Value.slice (some ⟨gT, 0, none⟩) n n = Value.slice (some ⟨gT', 0, none⟩) n n := e2'.symm.trans e3
      simp only [Value.slice.injEq, Option.some.injEq, Addr.mk.injEq, and_true] at e4
      simp only [Value.agg.injEq, Array.mk.injEq, List.cons.injEq, Value.slice.injEq, true_and, and_true] at e1'
      obtain ⟨rfl, rfl⟩ := e1'
      have := (hO.block g hg).1
      have := hM.lt
      omega
    · skip
      go_simp
      exact hK (a.put (some 17) (.pointer (some ⟨w.heap.size, 1, none⟩))) wx (h.step (d := 17) (Up.refl _) (by simp) hlt (fun j hj hk hl => by have := oriS_mem hk; omega) ((hda 17 _ 17 (by decide)).trans (if_pos rfl)) (fun h1 h5 => oriNF (h.nn ((getD_set_cases h1).resolve_left (by decide)) ((getD_set_cases h5).resolve_left (by decide))) ((hda 17 _ 16 (by decide)).trans (if_neg (by decide))) ((hda 17 _ 20 (by decide)).trans (if_neg (by decide)))))
    · have e0 : a.tmps.getD 17 undef = _ := hF 2 (hW (3, 2) (by simp))
      go_simp
      exact hK (a.put (some 18) (.slice A n c)) wx (h.step (d := 18) (Up.refl _) (by simp) hlt (fun j hj hk hl => by have := oriS_mem hk; omega) ((hda 18 _ 18 (by decide)).trans (if_pos rfl)) (fun h1 h5 => oriNF (h.nn ((getD_set_cases h1).resolve_left (by decide)) ((getD_set_cases h5).resolve_left (by decide))) ((hda 18 _ 16 (by decide)).trans (if_neg (by decide))) ((hda 18 _ 20 (by decide)).trans (if_neg (by decide)))))
    · have e0 : a.tmps.getD 18 undef = _ := hF 3 (hW (4, 3) (by simp))
      go_simp
      exact hK (a.put (some 19) (.int .i64 n)) wx (h.step (d := 19) (Up.refl _) (by simp) hlt (fun j hj hk hl => by have := oriS_mem hk; omega) ((hda 19 _ 19 (by decide)).trans (if_pos rfl)) (fun h1 h5 => oriNF (h.nn ((getD_set_cases h1).resolve_left (by decide)) ((getD_set_cases h5).resolve_left (by decide))) ((hda 19 _ 16 (by decide)).trans (if_neg (by decide))) ((hda 19 _ 20 (by decide)).trans (if_neg (by decide)))))
    · have e0 : a.tmps.getD 19 undef = _ := hF 4 (hW (5, 4) (by simp))
      go_simp
      have hsu := h.up.size
      have hu : Up wx (wx.alloc (.cells (zeros n) 3)) := by go_grown
      refine hK (a.put (some 20) (.slice (some ⟨wx.heap.size, 0, none⟩) n n)) _ (h.step (d := 20) hu (by simp) hlt (fun j hj hk hl => by have hm := oriS_mem hk; have e9 : j = 6 ∨ j = 10 := (by omega); rcases e9 with e9 | e9 <;> subst e9 <;> first | exact hno 6 (hW (6, 5) (by simp)) hl | exact hno 10 (hW (10, 5) (by simp)) hl) ⟨wx.heap.size, (hda 20 _ 20 (by decide)).trans (if_pos rfl), hsu, Blk.new _ _ _⟩ (fun h1 _ => ?_))
      intro B' d' gT g e1' e2' hg
      replace e2' := ((hda 20 _ 20 (by decide)).trans (if_pos rfl)).symm.trans e2'
      replace e1' := ((hda 20 (.slice (some ⟨wx.heap.size, 0, none⟩) n n) 16 (by decide)).trans (if_neg (by decide))).symm.trans e1'
      obtain ⟨B, d, e3, hO⟩ := h.fs 1 ((getD_set_cases h1).resolve_left (by decide))
      have e4 : Value.agg #[.int .i64 N, .slice B' n d'] = Value.agg #[.int .i64 N, .slice B n d] := e1'.symm.trans e3
      simp only [Value.slice.injEq, Option.some.injEq, Addr.mk.injEq, and_true] at e2'
      simp only [Value.agg.injEq, Array.mk.injEq, List.cons.injEq, Value.slice.injEq, true_and, and_true] at e4
      obtain ⟨rfl, rfl⟩ := e4
      have := (hO.block g hg).2
      omega
    · obtain ⟨gT, e0, _, _⟩ := hF 5 (hW (6, 5) (by simp))
      replace e0 : a.tmps.getD 20 undef = _ := e0
      have e0' : a.tmps[20]?.getD undef = _ := (Array.getD_eq_getD_getElem?).symm.trans e0
      go_simp
      refine hK (a.put (some 21) (.agg #[.slice (some ⟨gT, 0, none⟩) n n])) _ (h.step (d := 21) (Up.refl _) (by simp) hlt (fun j hj hk hl => by have := oriS_mem hk; omega) ?_ (fun h1 h5 => oriNF (h.nn ((getD_set_cases h1).resolve_left (by decide)) ((getD_set_cases h5).resolve_left (by decide))) ((hda 21 _ 16 (by decide)).trans (if_neg (by decide))) ((hda 21 _ 20 (by decide)).trans (if_neg (by decide)))))
      show (a.put (some 21) _).tmps.getD 21 undef = .agg #[(a.put (some 21) _).tmps.getD 20 undef]
      rw [hda 21 _ 21 (by decide), if_pos rfl, hda 21 _ 20 (by decide), if_neg (by decide), e0]
    · go_simp
      have hsu := h.up.size
      have hu : Up wx (wx.alloc (.cells #[.int .i64 0, .slice none 0 0] 27)) := by go_grown
      exact hK (a.put (some 4) (.pointer (some ⟨wx.heap.size, 0, none⟩))) _ (h.step (d := 4) hu (by simp) hlt (fun j hj hk hl => by have hm := oriS_mem hk; have e9 : j = 9 := (by omega); subst e9; exact hno 9 (hW (9, 7) (by simp)) hl) ⟨wx.heap.size, _, _, (hda 4 _ 4 (by decide)).trans (if_pos rfl), hsu, Blk.new _ _ _⟩ (fun h1 h5 => oriNF (h.nn ((getD_set_cases h1).resolve_left (by decide)) ((getD_set_cases h5).resolve_left (by decide))) ((hda 4 _ 16 (by decide)).trans (if_neg (by decide))) ((hda 4 _ 20 (by decide)).trans (if_neg (by decide)))))
    · go_simp
      have hsu := h.up.size
      have hu : Up wx (wx.alloc (.cells #[.slice none 0 0] 61)) := by go_grown
      exact hK (a.put (some 5) (.pointer (some ⟨wx.heap.size, 0, none⟩))) _ (h.step (d := 5) hu (by simp) hlt (fun j hj hk hl => by have hm := oriS_mem hk; have e9 : j = 10 := (by omega); subst e9; exact hno 10 (hW (10, 8) (by simp)) hl) ⟨wx.heap.size, _, (hda 5 _ 5 (by decide)).trans (if_pos rfl), hsu, Blk.new _ _ _⟩ (fun h1 h5 => oriNF (h.nn ((getD_set_cases h1).resolve_left (by decide)) ((getD_set_cases h5).resolve_left (by decide))) ((hda 5 _ 16 (by decide)).trans (if_neg (by decide))) ((hda 5 _ 20 (by decide)).trans (if_neg (by decide)))))
    · obtain ⟨bH, x, y, e0, hz, hH⟩ := hF 7 (hW (9, 7) (by simp))
      obtain ⟨B, d, e1', hO⟩ := hF 1 (hW (9, 1) (by simp))
      replace e0 : a.tmps.getD 4 undef = _ := e0
      replace e1' : a.tmps.getD 16 undef = _ := e1'
      have yH := hH.two
      have f0 := hH.frozen 0
      have f1 := hH.frozen 1
      have hH1 := (hH.set_ 0 (.int .i64 N)).two
      have hH1f := (hH.set_ 0 (.int .i64 N)).frozen 1
      have hHn := (hH.set_ 0 (.int .i64 N)).set_ 1 (.slice B n d)
      go_simp
      refine hK a _ ⟨by simp [h.lsz], h.sz, h.df, h.fr, (h.up.setCell (p := ⟨bH, 0, none⟩) hz _).setCell (p := ⟨bH, 1, none⟩) hz _, (h.bk.far (p := ⟨bH, 0, none⟩) (by simp; omega) _).far (p := ⟨bH, 1, none⟩) (by simp; omega) _, (h.br.far (p := ⟨bH, 0, none⟩) (by simp; omega) _).far (p := ⟨bH, 1, none⟩) (by simp; omega) _, fun j hj => ?_, fun h1 h5 => h.nn ((getD_set_cases h1).resolve_left (by decide)) ((getD_set_cases h5).resolve_left (by decide))⟩
      by_cases e : j = 9
      · subst e; exact ⟨bH, B, d, e0, e1', hHn⟩
      · have hj' := h.fs j ((getD_set_cases hj).resolve_left e)
        have hfar : ∀ {g : Nat} {t : TypeId} {cs : Array Value}, t ≠ 27 → Blk wx g t cs → Blk ((wx.setCell ⟨bH, 0, none⟩ (.int .i64 N)).setCell ⟨bH, 1, none⟩ (.slice B n d)) g t cs := fun ht hb => (hb.far (p := ⟨bH, 0, none⟩) (hb.ne_ hH ht) _).far (p := ⟨bH, 1, none⟩) (hb.ne_ hH ht) _
        match j, hj' with
        | 0, hj' | 2, hj' | 3, hj' | 4, hj' | 6, hj' => exact hj'
        | 1, ⟨B, d, h1, h2⟩ => exact ⟨B, d, h1, (h2.other_store (i := 0) hH (by decide) _).other_store (i := 1) (hH.set_ 0 (.int .i64 N)) (by decide) _⟩
        | 5, ⟨g, h1, h2, h3⟩ => exact ⟨g, h1, h2, hfar (by decide) h3⟩
        | 7, ⟨b, _, _, h1, h2, _⟩ =>
          have e4 : Value.pointer (some ⟨b, 0, none⟩) = Value.pointer (some ⟨bH, 0, none⟩) := h1.symm.trans e0
          simp only [Value.pointer.injEq, Option.some.injEq, Addr.mk.injEq, and_true] at e4
          subst e4
          exact ⟨_, _, _, e0, hz, hHn⟩
        | 8, ⟨b, x, h1, h2, h3⟩ => exact ⟨b, x, h1, h2, hfar (by decide) h3⟩
        | 9, _ => exact absurd rfl e
        | 10, ⟨b, h1, h2⟩ => exact ⟨b, h1, hfar (by decide) h2⟩
        | _ + 11, _ => trivial
    · obtain ⟨bT, x, e0, hz, hT⟩ := hF 8 (hW (10, 8) (by simp))
      obtain ⟨gT, e2', _, _⟩ := hF 5 (hW (10, 5) (by simp))
      have e1' : a.tmps.getD 21 undef = .agg #[a.tmps.getD 20 undef] := hF 6 (hW (10, 6) (by simp))
      replace e0 : a.tmps.getD 5 undef = _ := e0
      replace e2' : a.tmps.getD 20 undef = _ := e2'
      rw [e2'] at e1'
      have yT := hT.one
      have f0 := hT.frozen 0
      have hTn := hT.set_ 0 (.slice (some ⟨gT, 0, none⟩) n n)
      go_simp
      refine hK a _ ⟨by simp [h.lsz], h.sz, h.df, h.fr, h.up.setCell (p := ⟨bT, 0, none⟩) hz _, h.bk.far (p := ⟨bT, 0, none⟩) (by simp; omega) _, h.br.far (p := ⟨bT, 0, none⟩) (by simp; omega) _, fun j hj => ?_, fun h1 h5 => h.nn ((getD_set_cases h1).resolve_left (by decide)) ((getD_set_cases h5).resolve_left (by decide))⟩
      by_cases e : j = 10
      · subst e; exact ⟨bT, e0, by show Blk _ _ _ #[a.tmps.getD 20 undef]; rw [e2']; exact hTn⟩
      · have hj' := h.fs j ((getD_set_cases hj).resolve_left e)
        have hfar : ∀ {g : Nat} {t : TypeId} {cs : Array Value}, t ≠ 61 → Blk wx g t cs → Blk (wx.setCell ⟨bT, 0, none⟩ (.slice (some ⟨gT, 0, none⟩) n n)) g t cs := fun ht hb => hb.far (p := ⟨bT, 0, none⟩) (hb.ne_ hT ht) _
        match j, hj' with
        | 0, hj' | 2, hj' | 3, hj' | 4, hj' | 6, hj' => exact hj'
        | 1, ⟨B, d, h1, h2⟩ => exact ⟨B, d, h1, h2.other_store (i := 0) hT (by decide) _⟩
        | 5, ⟨g, h1, h2, h3⟩ => exact ⟨g, h1, h2, hfar (by decide) h3⟩
        | 7, ⟨b, x, y, h1, h2, h3⟩ => exact ⟨b, x, y, h1, h2, hfar (by decide) h3⟩
        | 8, ⟨b, _, h1, h2, _⟩ =>
          have e4 : Value.pointer (some ⟨b, 0, none⟩) = Value.pointer (some ⟨bT, 0, none⟩) := h1.symm.trans e0
          simp only [Value.pointer.injEq, Option.some.injEq, Addr.mk.injEq, and_true] at e4
          subst e4
          exact ⟨_, _, e0, hz, hTn⟩
        | 9, ⟨b, B, d, h1, h2, h3⟩ => exact ⟨b, B, d, h1, h2, hfar (by decide) h3⟩
        | 10, _ => exact absurd rfl e
        | _ + 11, _ => trivial
  · intro listed a wx h hall
    have hL : ∀ i, i < 11 → listed.getD i false = true := fun i hi => by
      have h1 := hall i (by omega)
      have h2 : i < listed.size := by rw [h.lsz]; exact hi
      simp [h2] at h1 ⊢
      exact h1
    have F0 : a.tmps.getD 15 undef = _ := h.fs 0 (hL 0 (by omega))
    obtain ⟨B, d, F1, hO⟩ := h.fs 1 (hL 1 (by omega))
    have F2 : a.tmps.getD 17 undef = _ := h.fs 2 (hL 2 (by omega))
    have F3 : a.tmps.getD 18 undef = _ := h.fs 3 (hL 3 (by omega))
    have F4 : a.tmps.getD 19 undef = _ := h.fs 4 (hL 4 (by omega))
    obtain ⟨gT, F5, hzM, hM⟩ := h.fs 5 (hL 5 (by omega))
    have F6 : a.tmps.getD 21 undef = .agg #[a.tmps.getD 20 undef] := h.fs 6 (hL 6 (by omega))
    obtain ⟨bH, _, _, F7, hzH, _⟩ := h.fs 7 (hL 7 (by omega))
    obtain ⟨bT, _, F8, hzT, _⟩ := h.fs 8 (hL 8 (by omega))
    obtain ⟨bH', B', d', F9, F9', hH⟩ := h.fs 9 (hL 9 (by omega))
    obtain ⟨bT', F10, hT⟩ := h.fs 10 (hL 10 (by omega))
    have hne := h.nn (hL 1 (by omega)) (hL 5 (by omega)) B d gT
    replace F1 : a.tmps.getD 16 undef = _ := F1
    replace F5 : a.tmps.getD 20 undef = _ := F5
    replace F7 : a.tmps.getD 4 undef = _ := F7
    replace F8 : a.tmps.getD 5 undef = _ := F8
    rw [F5] at F6
    have e4 : Value.pointer (some ⟨bH', 0, none⟩) = Value.pointer (some ⟨bH, 0, none⟩) := F9.symm.trans F7
    simp only [Value.pointer.injEq, Option.some.injEq, Addr.mk.injEq, and_true] at e4
    subst e4
    have e5 : Value.pointer (some ⟨bT', 0, none⟩) = Value.pointer (some ⟨bT, 0, none⟩) := F10.symm.trans F8
    simp only [Value.pointer.injEq, Option.some.injEq, Addr.mk.injEq, and_true] at e5
    subst e5
    have e6 : Value.agg #[.int .i64 N, .slice B' n d'] = Value.agg #[.int .i64 N, .slice B n d] := F9'.symm.trans F1
    simp only [Value.agg.injEq, Array.mk.injEq, List.cons.injEq, Value.slice.injEq, true_and, and_true] at e6
    obtain ⟨rfl, rfl⟩ := e6
    replace hT : Blk wx bT' 61 #[a.tmps.getD 20 undef] := hT
    rw [F5] at hT
    have hq := hQ bH' bT' gT d' B' wx hH hO hT hM (fun g hg => hne g F1 F5 hg) hzH hzT hzM h.up
    refine (congrArg (fun z => Q .normal z wx) (act_ext (arr_ext ?_ fun k => ?_) ?_)).mp hq
    · simp only [putA_size, h.sz]
    · repeat rw [put_getD _ _ _ (by first | omega | (simp only [putA_size]; omega))]
      by_cases hk : k ∈ [4, 5, 15, 16, 17, 18, 19, 20, 21]
      · simp only [List.mem_cons, List.not_mem_nil, or_false] at hk
        rcases hk with rfl | rfl | rfl | rfl | rfl | rfl | rfl | rfl | rfl
        · rw [F7]; rfl
        · rw [F8]; rfl
        · rw [F0]; rfl
        · rw [F1]; rfl
        · rw [F2]; rfl
        · rw [F3]; rfl
        · rw [F4]; rfl
        · rw [F5]; rfl
        · rw [F6]; rfl
      · rw [h.fr k hk]
        simp only [List.mem_cons, List.not_mem_nil, or_false, not_or] at hk
        obtain ⟨k4, k5, k15, k16, k17, k18, k19, k20, k21⟩ := hk
        rw [if_neg k5, if_neg k4, if_neg k21, if_neg k20, if_neg k19, if_neg k18, if_neg k17, if_neg k16, if_neg k15]
    · simp only [putA_defers, h.df]
end Go.Proofs.Ytlcmfangecbdgaa
