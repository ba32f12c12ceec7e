/- Walks: intervals as text. -/
import Derived.Test.YthncdjcmlpiebaaGreatDoorW9
import Derived.Test.YthncdjcmlpiebaaGreatDoorWt
import Derived.Test.YthncdjcmlpiebaaGreatDoorApp2
import Derived.Test.YthncdjcmlpiebaaGreatDoorW3A
namespace Go.Proofs.YthncdjcmlpiebaaGreatDoor
open Go.RowKit
set_option maxRecDepth 100000 in
theorem model_nums {X Y : List Int} (h : isModel X Y = true) : ∀ j, j < X.length → ∃ l r : Nat, X.getD j 0 = (l : Int) ∧ Y.getD j 0 = (r : Int) ∧ l < 100 ∧ r < 100 := fun j hj => by
  obtain ⟨h1, h2, h3, h4⟩ := isModel_spec h
  have := mOk_iff.1 (h4 j hj)
  exact ⟨(X.getD j 0).toNat, (Y.getD j 0).toNat, by omega, by omega, by omega, by omega⟩
/-- An interval. -/
def fiv (l r : Nat) : List UInt8 := dec l ++ [45] ++ dec r
set_option maxRecDepth 100000 in
theorem fiv_len {l r : Nat} (hl : l < 100) (hr : r < 100) : (fiv l r).length ≤ 5 := by
  have := dec_len hl
  have := dec_len hr
  unfold fiv
  simp only [List.length_append, List.length_cons, List.length_nil]
  omega
set_option maxRecDepth 100000 in
theorem fiK_one {X Y : List Int} {l r : Nat} (hl : X.getD 0 0 = (l : Int)) (hr : Y.getD 0 0 = (r : Int)) : fiK X Y 1 = fiv l r := by
  show (if 0 = 0 then ([] : List UInt8) else _) ++ _ = _
  rw [hl, hr]; rfl
set_option maxRecDepth 100000 in
theorem fiK_more {X Y : List Int} {k l r : Nat} (hk : k ≠ 0) (hl : X.getD k 0 = (l : Int)) (hr : Y.getD k 0 = (r : Int)) : fiK X Y (k + 1) = fiK X Y k ++ [32] ++ fiv l r := by
  rw [fiK, if_neg hk, hl, hr]; rfl
set_option maxRecDepth 100000 in
theorem fiK_len {X Y : List Int} (h : ∀ j, j < X.length → ∃ l r : Nat, X.getD j 0 = (l : Int) ∧ Y.getD j 0 = (r : Int) ∧ l < 100 ∧ r < 100) : ∀ k, k ≤ X.length → (fiK X Y k).length ≤ 6 * k
  | 0, _ => by simp [fiK]
  | k + 1, hk => by
    have ih := fiK_len h k (by omega)
    obtain ⟨l, r, e1, e2, e3, e4⟩ := h k hk
    have := fiv_len e3 e4
    rcases Nat.eq_zero_or_pos k with rfl | h0
    · rw [fiK_one e1 e2]; omega
    · rw [fiK_more (by omega) e1 e2]
      simp only [List.length_append, List.length_cons, List.length_nil]
      omega
set_option maxRecDepth 100000 in
set_option maxHeartbeats 1000000 in
theorem specFormatIntervals_any (A B : Option Addr) (n m c d : Nat) (X Y : List Int) (w : World) (hX : RI w A n X) (hY : RI w B m Y) (hn : n ≤ 1048576) (hm : m ≤ 1048576) :
    Calls Tryz.prog 17 #[.agg #[.slice A n c, .slice B m d]] w fun e w' => e = .returned (.string (sb (fivs X Y))) ∧ Below w.heap.size w w' := by
  have hbk := Blk.new w 26 #[.slice A n c, .slice B m d]
  have hU0 : Up w (w.alloc (.cells #[.slice A n c, .slice B m d] 26)) := by go_grown
  have hX0 := hX.up hU0
  have hY0 := hY.up hU0
  have HXl := Lib.hid hX.1
  by_cases ht : isModel X Y = true
  · obtain ⟨h1, h2, h3, _⟩ := isModel_spec ht
    have hnums := model_nums ht
    have HB := Lib.hid hnums
    have HLen := Lib.hid (fun k (hk : k ≤ X.length) => fiK_len (X := X) (Y := Y) hnums k hk)
    have HR := Lib.hid (fivs_yes ht)
    have hn20 : n ≤ 7 := by have := hX.1; omega
    have hmn : m = n := by have := hX.1; have := hY.1; omega
    subst hmn
    have HT := Lib.hid ht
    clear ht hnums h1 h2 h3 hX hY
    go_enter Tryz.func17, Tryz.ntmps17
    have hy0 := hbk.two
    go_wp2
    clear hy0
    go_loopw [3, 4] (fun s i wr => ∃ k, k ≤ m ∧ i = .int .i64 (k : Nat) ∧ s = .string (sb (fiK X Y k)) ∧ Blk wr w.heap.size 26 #[.slice A m c, .slice B m d] ∧ RI wr A m X ∧ RI wr B m Y ∧ Below w.heap.size w wr) (fun _ i _ => m - (intOf i).toNat)
    case atStart => exact ⟨0, Nat.zero_le _, rfl, rfl, hbk, hX0, hY0, hU0⟩
    case round =>
      clear hbk hX0 hY0 hU0
      obtain ⟨k, hk, rfl, rfl, hbk, hX0, hY0, hb⟩ := hrel
      have hy := hbk.two
      by_cases hkm : k < m
      · obtain ⟨l, r, hl1, hr1, hl2, hr2⟩ := HB.out k (by rw [HXl.out]; exact hkm)
        have hit := specIsModel_any A B m m c d X Y wr hX0 hY0 (by omega) (by omega)
        rw [HT.out] at hit
        have Hit := Lib.hid hit
        clear hit
        go_wp2_with (fail)
        refine Hit.out.mono ?_
        rintro e w1 ⟨rfl, hbe⟩
        replace hbk := hbk.up hbe
        replace hX0 := hX0.up hbe
        replace hY0 := hY0.up hbe
        replace hb := Up.then_ hb hbe
        clear Hit hbe hy
        have hy := hbk.two
        obtain ⟨ad, rfl, hadL, hcX⟩ := hX0.at_ hkm
        obtain ⟨ae, rfl, haeL, hcY⟩ := hY0.at_ hkm
        rw [hl1] at hcX
        rw [hr1] at hcY
        have hll := HLen.out k (by rw [HXl.out]; exact hk)
        have hd1 := dec_len hl2
        have hd2 := dec_len hr2
        have hfi1 := fun w => specFormatInt_any l hl2 w
        have hfi2 := fun w => specFormatInt_any r hr2 w
        obtain ⟨t, htt⟩ : ∃ t, t = (if k = 0 then fiK X Y k else fiK X Y k ++ [32]) := ⟨_, rfl⟩
        have hE : fiK X Y (k + 1) = t ++ dec l ++ [45] ++ dec r := by
          rw [fiK, hl1, hr1, ← htt]
          simp only [List.append_assoc, Int.toNat_natCast]
        have htl : t.length ≤ 6 * k + 1 := by
          rw [htt]; split
          · omega
          · simp; omega
        have a1 : ∀ w, (Op.stringOp .add (sb t) (sb (dec l))).run Tryz.prog w = .ok (.string (sb (t ++ dec l))) w := addS _ _ (by omega)
        have a2 : ∀ w, (Op.stringOp .add (sb (t ++ dec l)) ⟨#[45]⟩).run Tryz.prog w = .ok (.string (sb (t ++ dec l ++ [45]))) w := addS _ [45] (by simp; omega)
        have a3 : ∀ w, (Op.stringOp .add (sb (t ++ dec l ++ [45])) (sb (dec r))).run Tryz.prog w = .ok (.string (sb (fiK X Y (k + 1)))) w := by
          rw [hE]; exact addS _ _ (by simp; omega)
        obtain ⟨x0, hx0⟩ : ∃ x, x = sb t := ⟨_, rfl⟩
        obtain ⟨x1, hx1⟩ : ∃ x, x = sb (t ++ dec l) := ⟨_, rfl⟩
        obtain ⟨x2, hx2⟩ : ∃ x, x = sb (t ++ dec l ++ [45]) := ⟨_, rfl⟩
        obtain ⟨x3, hx3⟩ : ∃ x, x = sb (fiK X Y (k + 1)) := ⟨_, rfl⟩
        obtain ⟨y1, hy1⟩ : ∃ y, y = sb (dec l) := ⟨_, rfl⟩
        obtain ⟨y2, hy2⟩ : ∃ y, y = sb (dec r) := ⟨_, rfl⟩
        rw [← hx0, ← hx1, ← hy1] at a1
        rw [← hx1, ← hx2] at a2
        rw [← hx2, ← hx3, ← hy2] at a3
        simp only [← hy1] at hfi1
        simp only [← hy2] at hfi2
        have H3 := Lib.hid hx3
        have Hfi1 := Lib.hid hfi1
        have Hfi2 := Lib.hid hfi2
        have a0 : k ≠ 0 → ∀ w, (Op.stringOp .add (sb (fiK X Y k)) ⟨#[32]⟩).run Tryz.prog w = .ok (.string x0) w := fun h0 => by
          rw [hx0, htt, if_neg h0]
          exact addS _ [32] (by simp; omega)
        have e0 : k = 0 → sb (fiK X Y k) = x0 := fun h0 => by rw [hx0, htt, if_pos h0]
        clear hx0 hx1 hx2 hx3 hy1 hy2 hfi1 hfi2 hll hd1 hd2 htl hE htt hl1 hr1
        have hbkL := hbk.lt
        by_cases hk0 : k = 0
        · rw [e0 hk0]
          subst hk0
          rw [add_0s] at hcX hcY
          clear a0 e0
          go_wp2_with fail
          go_wp2
          have hV0 : Up w1 w1.drew := (Up.refl _).drew
          go_region_held3 (fun w' => Up w1 w' ∧ (∀ b o, b < w1.heap.size → w'.cell? ⟨b, o, none⟩ = w1.cell? ⟨b, o, none⟩) ∧ w'.cell? (ad) = some (.int .i64 (l : Nat)) ∧ w'.cell? (ae) = some (.int .i64 (r : Nat))) (first | exact (by exact ⟨hV2, fun _ _ hb => hV2.cell hb, (hV2.cell (by first | assumption | (rw [block_of_add]; assumption))).trans (by assumption), (hV2.cell (by first | assumption | (rw [block_of_add]; assumption))).trans (by assumption)⟩) | exact (by exact ⟨hV1, fun _ _ hb => hV1.cell hb, (hV1.cell (by first | assumption | (rw [block_of_add]; assumption))).trans (by assumption), (hV1.cell (by first | assumption | (rw [block_of_add]; assumption))).trans (by assumption)⟩) | exact (by exact ⟨hV0, fun _ _ hb => hV0.cell hb, (hV0.cell (by first | assumption | (rw [block_of_add]; assumption))).trans (by assumption), (hV0.cell (by first | assumption | (rw [block_of_add]; assumption))).trans (by assumption)⟩)) (first | (go_at_call_of 69 (Value.int .i64 (l : Nat)); refine (Hfi1.out _).mono ?_; rintro e w10 ⟨rfl, hb10⟩; have hV1 := Up.then_ hV0 hb10) | (go_at_call_of 69 (Value.int .i64 (r : Nat)); refine (Hfi2.out _).mono ?_; rintro e w11 ⟨rfl, hb11⟩; have hV2 := Up.then_ hV1 hb11))
          have hU1 := hV2
          go_wp2
          go_roundw
          case rel => exact ⟨1, by omega, rfl, by rw [H3.out], hbk.up hU1, hX0.up hU1, hY0.up hU1, Up.then_ hb hU1⟩
          case measure => simp [intOf]; omega
        · have a0' := a0 hk0
          clear a0 e0
          obtain ⟨z, hz⟩ : ∃ z, z = sb (fiK X Y k) := ⟨_, rfl⟩
          rw [← hz] at a0'
          rw [← hz]
          clear hz
          go_wp2_with fail
          go_wp2
          have hV0 : Up w1 w1.drew := (Up.refl _).drew
          go_region_held3 (fun w' => Up w1 w' ∧ (∀ b o, b < w1.heap.size → w'.cell? ⟨b, o, none⟩ = w1.cell? ⟨b, o, none⟩) ∧ w'.cell? (ad.add k) = some (.int .i64 (l : Nat)) ∧ w'.cell? (ae.add k) = some (.int .i64 (r : Nat))) (first | exact (by exact ⟨hV2, fun _ _ hb => hV2.cell hb, (hV2.cell (by first | assumption | (rw [block_of_add]; assumption))).trans (by assumption), (hV2.cell (by first | assumption | (rw [block_of_add]; assumption))).trans (by assumption)⟩) | exact (by exact ⟨hV1, fun _ _ hb => hV1.cell hb, (hV1.cell (by first | assumption | (rw [block_of_add]; assumption))).trans (by assumption), (hV1.cell (by first | assumption | (rw [block_of_add]; assumption))).trans (by assumption)⟩) | exact (by exact ⟨hV0, fun _ _ hb => hV0.cell hb, (hV0.cell (by first | assumption | (rw [block_of_add]; assumption))).trans (by assumption), (hV0.cell (by first | assumption | (rw [block_of_add]; assumption))).trans (by assumption)⟩)) (first | (go_at_call_of 69 (Value.int .i64 (l : Nat)); refine (Hfi1.out _).mono ?_; rintro e w10 ⟨rfl, hb10⟩; have hV1 := Up.then_ hV0 hb10) | (go_at_call_of 69 (Value.int .i64 (r : Nat)); refine (Hfi2.out _).mono ?_; rintro e w11 ⟨rfl, hb11⟩; have hV2 := Up.then_ hV1 hb11))
          have hU1 := hV2
          go_wp2
          go_roundw
          case rel => exact ⟨k + 1, by omega, by go_num, by rw [H3.out], hbk.up hU1, hX0.up hU1, hY0.up hU1, Up.then_ hb hU1⟩
          case measure => simp [intOf]; omega
      · obtain rfl : k = m := by omega
        have HR2 := Lib.hid (show fivs X Y = fiK X Y k by rw [HR.out, HXl.out])
        go_wp2
        go_ret
        exact ⟨congrArg (fun b => Ending.returned (Value.string (sb b))) HR2.out.symm, hb⟩
  · have ht' : isModel X Y = false := by simpa using ht
    have HE := Lib.hid (fivs_no ht')
    go_enter Tryz.func17, Tryz.ntmps17
    have hy0 := hbk.two
    have hit := specIsModel_any A B n m c d X Y _ hX0 hY0 (by omega) (by omega)
    rw [ht'] at hit
    have Hit := Lib.hid hit
    clear hit
    by_cases h0 : 0 < n
    · go_wp2
      go_loop [3, 4] (fun s i => s = .string ⟨#[]⟩ ∧ i = .int .i64 0) (fun _ _ => 0)
      case atStart => exact ⟨rfl, rfl⟩
      case round =>
        obtain ⟨rfl, rfl⟩ := hrel
        go_wp2_with fail
        refine Hit.out.mono ?_
        rintro e w1 ⟨rfl, hbe⟩
        go_wp2
        go_ret
        exact ⟨congrArg (fun b => Ending.returned (Value.string (sb b))) HE.out.symm, Up.then_ hU0 hbe⟩
    · obtain rfl : n = 0 := by omega
      go_wp2
      go_loop [3, 4] (fun s i => s = .string ⟨#[]⟩ ∧ i = .int .i64 0) (fun _ _ => 0)
      case atStart => exact ⟨rfl, rfl⟩
      case round =>
        obtain ⟨rfl, rfl⟩ := hrel
        go_wp2
        go_ret
        exact ⟨congrArg (fun b => Ending.returned (Value.string (sb b))) HE.out.symm, hU0⟩
/-- The words of a model's first k intervals. -/
def wds (X Y : List Int) : Nat → List (List UInt8)
  | 0 => []
  | k + 1 => wds X Y k ++ [fiv (X.getD k 0).toNat (Y.getD k 0).toNat]
set_option maxRecDepth 100000 in
theorem wds_len (X Y : List Int) : ∀ k, (wds X Y k).length = k
  | 0 => rfl
  | k + 1 => by rw [wds, List.length_append, wds_len X Y k]; rfl
set_option maxRecDepth 100000 in
theorem join_snoc {xs : List (List UInt8)} (x sep : List UInt8) (h : xs ≠ []) : Lib.join (xs ++ [x]) sep = Lib.join xs sep ++ sep ++ x := by
  cases xs with
  | nil => exact absurd rfl h
  | cons a r =>
    rw [List.cons_append, Lib.join_cons, Lib.join_cons]
    simp [Lib.joinTail]
set_option maxRecDepth 100000 in
theorem wds_join (X Y : List Int) : ∀ k, Lib.join (wds X Y k) [32] = fiK X Y k
  | 0 => rfl
  | k + 1 => by
    rcases Nat.eq_zero_or_pos k with rfl | h0
    · show Lib.join [fiv _ _] [32] = _
      rw [Lib.join_one]; rfl
    · rw [wds, join_snoc _ _ (fun e => by have := wds_len X Y k; rw [e] at this; simp at this; omega), wds_join X Y k, fiK, if_neg (by omega)]
      rfl
set_option maxRecDepth 100000 in
theorem Tryz.infoStr : (Tryz.prog.info? 9).map (fun i => (i.zero, i.size, i.bytes)) = some (some (.string ⟨#[]⟩), 1, 16) := by kernel_rfl
/-- A slice of texts of the call's own. -/
def OwnT (w : World) (base : Nat) (A : Option Addr) (n c : Nat) (xs : List ByteArray) : Prop := w.ownsRow base 9 1 (.slice A n c) n (xs.map Value.string)
set_option maxRecDepth 100000 in
theorem OwnT.up {w w' : World} {base n c : Nat} {A : Option Addr} {xs : List ByteArray} (h : OwnT w base A n c xs) (hb : Below w.heap.size w w') : OwnT w' base A n c xs := by
  unfold OwnT at h ⊢
  rcases hv : (Value.slice A n c).ownBlock with _ | g
  · exact World.ownsRow.kept h (only_of_below hb none) (.inl hv)
  · exact World.ownsRow.kept h (only_of_below hb none) (.inr (by rw [hv]; simp))
set_option maxRecDepth 100000 in
theorem OwnT.at_ {w : World} {base n c : Nat} {A : Option Addr} {xs : List ByteArray} (h : OwnT w base A n c xs) (h0 : 0 < n) : ∃ g, A = some ⟨g, 0, none⟩ ∧ base ≤ g ∧ g < w.heap.size ∧ n ≤ c ∧ ∀ (j : Nat) x, xs[j]? = some x → w.cell? ⟨g, 0 + j, none⟩ = some (.string x) := by
  have hl := h.1
  have h2 := h
  rcases h.2 with ⟨_, hn⟩ | ⟨g, cap, cur, hv, hrest⟩
  · omega
  · injection hv with e1 e2 e3
    subst e1
    have hb := World.ownsRow.lt h2 g (by simp [Value.ownBlock])
    refine ⟨g, rfl, hb.1, hb.2, ?_, fun j x hx => ?_⟩
    · have := hrest
      subst e3
      obtain ⟨_, _, h3⟩ := hrest
      omega
    · have := World.ownsRow.cells h2 rfl j (.string x) (by rw [List.getElem?_map, hx]; rfl)
      rw [show (⟨g, 0, none⟩ : Addr).add j = ⟨g, 0 + j, none⟩ by unfold Addr.add; split <;> simp_all] at this
      exact this
set_option maxRecDepth 100000 in
/-- 'append(v, s)': a text more, as one step of a region that draws. -/
theorem step_push_str {ops : Array Oper} {o : Oper} {a : Act} {w : World} {K : Act → World → Prop} {Q : Exit → Act → World → Prop} {E : Prop}
    (hgd : o.guard = none) (s x : Operand) (ho : o.op = .call { callee := .builtin .append, args := #[s, x], argTypes := #[77, 77] })
    {base n c : Nat} {A : Option Addr} {xs : List ByteArray} (y : ByteArray) (hs : a.eval s = .slice A n c) (hown : OwnT w base A n c xs)
    (ad : Addr) (hx : a.eval x = .slice (some ad) 1 1) (hc : w.cell? ad = some (.string y)) (hn : n ≤ 1048576) (hbase : base ≤ w.heap.size)
    (hK : ∀ A' c' w', OwnT w' base A' (n + 1) c' (xs ++ [y]) → Below base w w' → K (a.put o.dst (.slice A' (n + 1) c')) w') :
    if Region.wanted o (yielded ops a.tmps) = true then Oper.wp Tryz.prog o a w K Q else E := by
  have hw : Region.wanted o (yielded ops a.tmps) = true := by simp [Region.wanted, hgd]
  rw [if_pos hw]
  obtain ⟨i0, hi, hz0, hz1, hz2⟩ := info_parts Tryz.infoStr
  refine wp_push2 s x 77 9 ho i0 (.string ⟨#[]⟩) 16 Tryz.underlying77 hi hz0 hz1 hz2 rfl hs hown ad _ hx hc rfl (by unfold maxLen; omega) (by omega) hbase fun A' c' w' h2 h3 _ => ?_
  exact hK A' c' w' (by unfold OwnT; rw [List.map_append]; exact h2) ((Below.refl _ _).grown h3 hbase fun k hk => (World.ownsRow.lt hown k hk).1)
set_option maxRecDepth 100000 in
set_option maxHeartbeats 1000000 in
theorem implFormatIntervals_any (A B : Option Addr) (n m c d : Nat) (X Y : List Int) (w : World) (hX : RI w A n X) (hY : RI w B m Y) (hn : n ≤ 1048576) (hm : m ≤ 1048576) :
    Calls Tryz.prog 16 #[.agg #[.slice A n c, .slice B m d]] w fun e w' => e = .returned (.string (sb (fivs X Y))) ∧ Below w.heap.size w w' := by
  have hbk := Blk.new w 26 #[.slice A n c, .slice B m d]
  have hU0 : Up w (w.alloc (.cells #[.slice A n c, .slice B m d] 26)) := by go_grown
  have hX0 := hX.up hU0
  have hY0 := hY.up hU0
  have HXl := Lib.hid hX.1
  have hit := implIsModel_any A B n m c d X Y _ hX0 hY0 (by omega) (by omega)
  by_cases ht : isModel X Y = true
  · obtain ⟨h1, h2, h3, _⟩ := isModel_spec ht
    have hnums := model_nums ht
    have HB := Lib.hid hnums
    have HLen := Lib.hid (fun k (hk : k ≤ X.length) => fiK_len (X := X) (Y := Y) hnums k hk)
    have HR := Lib.hid (fivs_yes ht)
    have hn20 : n ≤ 7 := by have := hX.1; omega
    have hn0 : 0 < n := by have := hX.1; omega
    have hmn : m = n := by have := hX.1; have := hY.1; omega
    subst hmn
    rw [ht] at hit
    have Hit := Lib.hid hit
    clear ht hnums h1 h2 h3 hX hY hit
    go_enter Tryz.func16, Tryz.ntmps16
    have hy0 := hbk.two
    go_wp2_with fail
    refine Hit.out.mono ?_
    rintro e w1 ⟨rfl, hb1⟩
    replace hbk := hbk.up hb1
    replace hX0 := hX0.up hb1
    replace hY0 := hY0.up hb1
    have hb := Up.then_ hU0 hb1
    clear Hit hb1 hy0 hU0
    have hy := hbk.two
    have hbkL := hbk.lt
    have hws := hb.size
    obtain ⟨ad, rfl, hadL, _⟩ := hX0.at_ hn0
    obtain ⟨ae, rfl, haeL, _⟩ := hY0.at_ hn0
    have HcX := Lib.hid (fun k (hk : k < m) => show w1.cell? (ad.add k) = some (.int .i64 (X.getD k 0)) by
      obtain ⟨_, e, _, h⟩ := hX0.at_ hk
      injection e with e
      subst e
      exact h)
    have HcY := Lib.hid (fun k (hk : k < m) => show w1.cell? (ae.add k) = some (.int .i64 (Y.getD k 0)) by
      obtain ⟨_, e, _, h⟩ := hY0.at_ hk
      injection e with e
      subst e
      exact h)
    obtain ⟨b0, hb0⟩ : ∃ b0, b0 = w1.heap.size := ⟨_, rfl⟩
    have hO0 : OwnT (w1.alloc (.cells #[] 9)) b0 (some ⟨w1.heap.size, 0, none⟩) 0 0 [] := World.ownsRow_made w1 #[] 0 (by omega) (by decide) (by simp)
    have hB0 : Below b0 w1 (w1.alloc (.cells #[] 9)) := (Below.refl _ _).alloc (by omega) _
    have hyd : ∀ o, (w1.alloc o).cell? ⟨w.heap.size, 0, none⟩ = some (.slice (some ad) m c) := fun o => ((hbk.alloc o).two).1
    clear hX0 hY0 hy
    go_wp2
    go_loopw [3, 13] (fun s i wr => ∃ (k : Nat) (A' : Option Addr) (c' : Nat), k ≤ m ∧ i = .int .i64 (k : Nat) ∧ s = .slice A' k c' ∧ OwnT wr b0 A' k c' ((wds X Y k).map sb) ∧ Below b0 w1 wr ∧ b0 ≤ wr.heap.size) (fun _ i _ => m - (intOf i).toNat)
    case atStart => exact ⟨0, _, _, Nat.zero_le _, rfl, rfl, hO0, hB0, by simp; omega⟩
    case round =>
      clear hO0 hB0 hyd
      obtain ⟨k, A', c', hk, rfl, rfl, hO, hB, hbs⟩ := hrel
      obtain ⟨wo, rfl⟩ : ∃ wo : World, wo = wr := ⟨_, rfl⟩
      by_cases hkm : k < m
      · obtain ⟨l, r, hl1, hr1, hl2, hr2⟩ := HB.out k (by rw [HXl.out]; exact hkm)
        have hcX : wo.cell? (ad.add k) = some (.int .i64 (l : Nat)) := by rw [← hl1, ← HcX.out k hkm]; exact hB.cell (by rw [block_of_add]; omega)
        have hcY : wo.cell? (ae.add k) = some (.int .i64 (r : Nat)) := by rw [← hr1, ← HcY.out k hkm]; exact hB.cell (by rw [block_of_add]; omega)
        have hy1 : wo.cell? ⟨w.heap.size, 1, none⟩ = some (.slice (some ae) m d) := by rw [← hbk.two.2]; exact hB.cell (by show w.heap.size < b0; omega)
        have HW := Lib.hid (show (wds X Y (k + 1)).map sb = (wds X Y k).map sb ++ [sb (fiv l r)] by rw [wds, hl1, hr1, List.map_append]; rfl)
        have hd1 := dec_len hl2
        have hd2 := dec_len hr2
        have hfi1 := fun w => implFormatInt_below l hl2 w
        have hfi2 := fun w => implFormatInt_below r hr2 w
        have a1 : ∀ w, (Op.stringOp .add (sb (dec l)) ⟨#[45]⟩).run Tryz.prog w = .ok (.string (sb (dec l ++ [45]))) w := addS _ [45] (by simp; omega)
        have a2 : ∀ w, (Op.stringOp .add (sb (dec l ++ [45])) (sb (dec r))).run Tryz.prog w = .ok (.string (sb (fiv l r))) w := addS _ _ (by simp; omega)
        obtain ⟨x1, hx1⟩ : ∃ x, x = sb (dec l ++ [45]) := ⟨_, rfl⟩
        obtain ⟨x2, hx2⟩ : ∃ x, x = sb (fiv l r) := ⟨_, rfl⟩
        obtain ⟨y1, hy1'⟩ : ∃ y, y = sb (dec l) := ⟨_, rfl⟩
        obtain ⟨y2, hy2'⟩ : ∃ y, y = sb (dec r) := ⟨_, rfl⟩
        rw [← hx1, ← hy1'] at a1
        rw [← hx1, ← hx2, ← hy2'] at a2
        rw [← hx2] at HW
        simp only [← hy1'] at hfi1
        simp only [← hy2'] at hfi2
        have Hf1 := Lib.hid hfi1
        have Hf2 := Lib.hid hfi2
        clear hx1 hx2 hy1' hy2' hfi1 hfi2 hl1 hr1 hd1 hd2
        have hL1 : w.heap.size < wo.heap.size := by omega
        have hL2 : ae.block < wo.heap.size := by omega
        go_wp2_with fail
        have hV0 : Up wo wo.drew := (Up.refl _).drew
        refine wp_region_held_drew (S := (fun w' => w'.cell? (⟨w.heap.size, 1, none⟩) = some (.slice (some ae) m d) ∧ w'.cell? (ae.add k) = some (.int .i64 (r : Nat)))) (by kernel_rfl) (by exact ⟨(hV0.cell (by first | assumption | (rw [block_of_add]; assumption))).trans (by assumption), (hV0.cell (by first | assumption | (rw [block_of_add]; assumption))).trans (by assumption)⟩) (fun hHeld => ?_)
        refine wpAnyH_take (i := 0) (v := ?_) rfl (by kernel_rfl) (by kernel_rfl) (by kernel_rfl) (fun _ _ _ h => h) (Or.inl ⟨by rfl, ?_⟩) (by assumption) ?_
        rotate_left
        · (intro w' hSw; go_simp; try with_reducible rfl)
        (try simp only [List.getElem_toArray]); (try simp only [List.getElem_cons_succ]); (try simp only [List.getElem_cons_zero]); (try simp only [Act.put]); (try simp only [List.setIfInBounds_toArray]); (try simp only [List.set_cons_succ]); (try simp only [List.set_cons_zero])
        refine wpAnyH_take (i := 1) (v := ?_) rfl (by kernel_rfl) (by kernel_rfl) (by kernel_rfl) (fun _ _ _ h => h) (Or.inl ⟨by rfl, ?_⟩) (by assumption) ?_
        rotate_left
        · (intro w' hSw; go_simp; try with_reducible rfl)
        (try simp only [List.getElem_toArray]); (try simp only [List.getElem_cons_succ]); (try simp only [List.getElem_cons_zero]); (try simp only [Act.put]); (try simp only [List.setIfInBounds_toArray]); (try simp only [List.set_cons_succ]); (try simp only [List.set_cons_zero])
        refine wpAnyH_take (i := 4) (v := ?_) rfl (by kernel_rfl) (by kernel_rfl) (by kernel_rfl) (fun _ _ _ h => h) (Or.inl ⟨by rfl, ?_⟩) (by assumption) ?_
        rotate_left
        · (intro w' hSw; go_simp; try with_reducible rfl)
        (try simp only [List.getElem_toArray]); (try simp only [List.getElem_cons_succ]); (try simp only [List.getElem_cons_zero]); (try simp only [Act.put]); (try simp only [List.setIfInBounds_toArray]); (try simp only [List.set_cons_succ]); (try simp only [List.set_cons_zero])
        refine wpAnyH_take (i := 5) (v := ?_) rfl (by kernel_rfl) (by kernel_rfl) (by kernel_rfl) (fun _ _ _ h => h) (Or.inl ⟨by rfl, ?_⟩) (by assumption) ?_
        rotate_left
        · (intro w' hSw; go_simp; try with_reducible rfl)
        (try simp only [List.getElem_toArray]); (try simp only [List.getElem_cons_succ]); (try simp only [List.getElem_cons_zero]); (try simp only [Act.put]); (try simp only [List.setIfInBounds_toArray]); (try simp only [List.set_cons_succ]); (try simp only [List.set_cons_zero])
        refine wpAnyH_take (i := 6) (v := ?_) rfl (by kernel_rfl) (by kernel_rfl) (by kernel_rfl) (fun _ _ _ h => h) (Or.inl ⟨by rfl, ?_⟩) (by assumption) ?_
        rotate_left
        · (intro w' hSw; go_simp; try with_reducible rfl)
        (try simp only [List.getElem_toArray]); (try simp only [List.getElem_cons_succ]); (try simp only [List.getElem_cons_zero]); (try simp only [Act.put]); (try simp only [List.setIfInBounds_toArray]); (try simp only [List.set_cons_succ]); (try simp only [List.set_cons_zero])
        refine wpAnyH_take (i := 7) (v := ?_) rfl (by kernel_rfl) (by kernel_rfl) (by kernel_rfl) (fun _ _ _ h => h) (Or.inl ⟨by rfl, ?_⟩) (by assumption) ?_
        rotate_left
        · (intro w' hSw; go_simp; try with_reducible rfl)
        (try simp only [List.getElem_toArray]); (try simp only [List.getElem_cons_succ]); (try simp only [List.getElem_cons_zero]); (try simp only [Act.put]); (try simp only [List.setIfInBounds_toArray]); (try simp only [List.set_cons_succ]); (try simp only [List.set_cons_zero])
        refine wpAnyH_take (i := 8) (v := ?_) rfl (by kernel_rfl) (by kernel_rfl) (by kernel_rfl) (fun _ _ _ h => h) (Or.inl ⟨by rfl, ?_⟩) (by assumption) ?_
        rotate_left
        · (intro w' hSw; go_simp; try with_reducible rfl)
        (try simp only [List.getElem_toArray]); (try simp only [List.getElem_cons_succ]); (try simp only [List.getElem_cons_zero]); (try simp only [Act.put]); (try simp only [List.setIfInBounds_toArray]); (try simp only [List.set_cons_succ]); (try simp only [List.set_cons_zero])
        refine wpAnyH_ready (rs := [2]) (by kernel_rfl) (by simp) ?_
        refine AllReadyH.cons rfl (fun K hK => ?_) AllReadyH.nil
        go_simp
        go_at_call 67
        refine (Hf1.out _).mono ?_
        rintro e w10 ⟨rfl, hb10⟩
        have hV1 := Up.then_ hV0 hb10
        go_wp2_with fail
        refine hK.out _ _ (by exact ⟨(hV1.cell (by first | assumption | (rw [block_of_add]; assumption))).trans (by assumption), (hV1.cell (by first | assumption | (rw [block_of_add]; assumption))).trans (by assumption)⟩) (fun hHeld1 => ?_)
        clear hK K
        (try simp only [List.getElem_toArray]); (try simp only [List.getElem_cons_succ]); (try simp only [List.getElem_cons_zero]); (try simp only [Act.put]); (try simp only [List.setIfInBounds_toArray]); (try simp only [List.set_cons_succ]); (try simp only [List.set_cons_zero])
        refine wpAnyH_take (i := 3) (v := ?_) rfl (by kernel_rfl) (by kernel_rfl) (by kernel_rfl) (fun _ _ _ h => h) (Or.inl ⟨by rfl, ?_⟩) (by assumption) ?_
        rotate_left
        · (intro w' hSw; go_simp; try with_reducible rfl)
        (try simp only [List.getElem_toArray]); (try simp only [List.getElem_cons_succ]); (try simp only [List.getElem_cons_zero]); (try simp only [Act.put]); (try simp only [List.setIfInBounds_toArray]); (try simp only [List.set_cons_succ]); (try simp only [List.set_cons_zero])
        refine wpAnyH_ready (rs := [9]) (by kernel_rfl) (by simp) ?_
        refine AllReadyH.cons rfl (fun K hK => ?_) AllReadyH.nil
        go_simp
        go_at_call 67
        refine (Hf2.out _).mono ?_
        rintro e w11 ⟨rfl, hb11⟩
        have hV2 := Up.then_ hV1 hb11
        go_wp2_with fail
        refine hK.out _ _ (by exact ⟨(hV2.cell (by first | assumption | (rw [block_of_add]; assumption))).trans (by assumption), (hV2.cell (by first | assumption | (rw [block_of_add]; assumption))).trans (by assumption)⟩) (fun hHeld2 => ?_)
        clear hK K
        (try simp only [List.getElem_toArray]); (try simp only [List.getElem_cons_succ]); (try simp only [List.getElem_cons_zero]); (try simp only [Act.put]); (try simp only [List.setIfInBounds_toArray]); (try simp only [List.set_cons_succ]); (try simp only [List.set_cons_zero])
        refine wpAnyH_take (i := 10) (v := ?_) rfl (by kernel_rfl) (by kernel_rfl) (by kernel_rfl) (fun _ _ _ h => h) (Or.inl ⟨by rfl, ?_⟩) (by assumption) ?_
        rotate_left
        · (intro w' hSw; go_simp; try with_reducible rfl)
        (try simp only [List.getElem_toArray]); (try simp only [List.getElem_cons_succ]); (try simp only [List.getElem_cons_zero]); (try simp only [Act.put]); (try simp only [List.setIfInBounds_toArray]); (try simp only [List.set_cons_succ]); (try simp only [List.set_cons_zero])
        refine wpAnyH_ready (rs := [11]) (by kernel_rfl) (by simp) ?_
        refine AllReadyH.cons rfl (fun K hK => ?_) AllReadyH.nil
        go_simp
        have hB11 : Up wo (w11.alloc (.cells #[.string x2] 9)) := Up.then_ hV2 (by go_grown)
        refine hK.out _ _ (by exact ⟨(hB11.cell (by first | assumption | (rw [block_of_add]; assumption))).trans (by assumption), (hB11.cell (by first | assumption | (rw [block_of_add]; assumption))).trans (by assumption)⟩) (fun hHeldb11 => ?_)
        clear hK K
        (try simp only [List.getElem_toArray]); (try simp only [List.getElem_cons_succ]); (try simp only [List.getElem_cons_zero]); (try simp only [Act.put]); (try simp only [List.setIfInBounds_toArray]); (try simp only [List.set_cons_succ]); (try simp only [List.set_cons_zero])
        refine wpAnyH_ready (rs := [12]) (by kernel_rfl) (by simp) ?_
        refine AllReadyH.cons rfl (fun K hK => ?_) AllReadyH.nil
        refine step_push_str rfl (.tmp 18) (.tmp 29) rfl x2 rfl (hO.up hB11) ⟨w11.heap.size, 0, none⟩ rfl (by simp) (by omega) (by have := hB11.size; omega) ?_
        intro A7 c7 w7 hown7 hb7
        have hA12 := (show w7.cell? ⟨w.heap.size, 1, none⟩ = some (.slice (some ae) m d) ∧ w7.cell? (ae.add k) = some (.int .i64 (r : Nat)) from ⟨(hb7.cell (by show w.heap.size < b0; omega)).trans ((hB11.cell hL1).trans hy1), (hb7.cell (by rw [block_of_add]; omega)).trans ((hB11.cell (by rw [block_of_add]; exact hL2)).trans hcY)⟩)
        refine hK.out _ _ hA12 (fun hHelda12 => ?_)
        clear hK K
        (try simp only [List.getElem_toArray]); (try simp only [List.getElem_cons_succ]); (try simp only [List.getElem_cons_zero]); (try simp only [Act.put]); (try simp only [List.setIfInBounds_toArray]); (try simp only [List.set_cons_succ]); (try simp only [List.set_cons_zero])
        refine wpAnyH_take (i := 13) (v := ?_) rfl (by kernel_rfl) (by kernel_rfl) (by kernel_rfl) (fun _ _ _ h => h) (Or.inl ⟨by rfl, ?_⟩) (by assumption) ?_
        rotate_left
        · (intro w' hSw; go_simp; try with_reducible rfl)
        (try simp only [List.getElem_toArray]); (try simp only [List.getElem_cons_succ]); (try simp only [List.getElem_cons_zero]); (try simp only [Act.put]); (try simp only [List.setIfInBounds_toArray]); (try simp only [List.set_cons_succ]); (try simp only [List.set_cons_zero])
        refine wpAnyH_done (by kernel_rfl) ?_ _
        have hU1 := hV2
        rw [← HW.out] at hown7
        have hB7 : Below b0 w1 w7 := (hB.trans (hB11.mono hbs)).trans hb7
        have hs7 : b0 ≤ w7.heap.size := by have := hb7.size; have := hB11.size; omega
        go_wp2
        go_roundw
        case rel => exact ⟨k + 1, A7, c7, by omega, by go_num, rfl, hown7, hB7, hs7⟩
        case measure => simp [intOf]; omega
      · obtain rfl : k = m := by omega
        obtain ⟨g, rfl, hg1, hg2, hcap, hcells⟩ := hO.at_ hn0
        have hlw : ((wds X Y k).map sb).length = k := by rw [List.length_map, wds_len]
        have hid : ((wds X Y k).map sb).map (fun x => x.data.toList) = wds X Y k := by
          rw [List.map_map]
          exact (List.map_congr_left fun l _ => by simp [sb]).trans (List.map_id _)
        have hJ : Lib.join (((wds X Y k).map sb).map (fun x => x.data.toList)) ([32] : List UInt8) = fiK X Y k := by rw [hid, wds_join]
        have hj := Tryz.strings_Join g 0 c' ((wds X Y k).map sb) ⟨#[32]⟩ wo hcells hg2 (by rw [hlw]; omega) (by rw [hlw]; exact hcap) (by
          show (Lib.join (((wds X Y k).map sb).map (fun x => x.data.toList)) [32]).length ≤ _
          rw [hJ]
          have := HLen.out k (by rw [HXl.out]; exact Nat.le_refl _)
          omega)
        rw [hlw] at hj
        have hj2 : Calls Tryz.prog 68 #[.slice (some ⟨g, 0, none⟩) k c', .string ⟨#[32]⟩] wo fun e w' => e = .returned (.string (sb (fiK X Y k))) ∧ Below wo.heap.size wo w' :=
          hj.mono fun e w' ⟨he, hb⟩ => ⟨by rw [he]; show Ending.returned (.string (sb (Lib.join (((wds X Y k).map sb).map (fun x => x.data.toList)) [32]))) = _; rw [hJ], hb⟩
        have HR2 := Lib.hid (show fivs X Y = fiK X Y k by rw [HR.out, HXl.out])
        obtain ⟨x, hx⟩ : ∃ x, x = sb (fiK X Y k) := ⟨_, rfl⟩
        rw [← hx] at hj2
        have HX := Lib.hid hx
        have Hj := Lib.hid hj2
        have hbf : Below w.heap.size w wo := hb.trans (hB.mono (by omega))
        clear hj hj2 hJ hid hlw hcells hx hO
        go_wp2_with fail
        refine Hj.out.mono ?_
        rintro e w8 ⟨rfl, hb8⟩
        go_wp2
        go_ret
        exact ⟨congrArg (fun b => Ending.returned (Value.string b)) (HX.out.trans (congrArg sb HR2.out.symm)), Up.then_ hbf hb8⟩
  · have ht' : isModel X Y = false := by simpa using ht
    have HE := Lib.hid (fivs_no ht')
    rw [ht'] at hit
    have Hit := Lib.hid hit
    clear hit ht ht'
    go_enter Tryz.func16, Tryz.ntmps16
    have hy0 := hbk.two
    go_wp2_with fail
    refine Hit.out.mono ?_
    rintro e w1 ⟨rfl, hb1⟩
    go_wp2
    go_ret
    exact ⟨congrArg (fun b => Ending.returned (Value.string (sb b))) HE.out.symm, Up.then_ hU0 hb1⟩
end Go.Proofs.YthncdjcmlpiebaaGreatDoor
