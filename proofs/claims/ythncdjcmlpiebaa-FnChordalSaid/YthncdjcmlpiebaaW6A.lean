/- Walks of chapter 6: a list turned round. Walks of chapter 7: colours by an order. Walks of chapter 6: the colours of a chordal graph. -/
import Derived.Test.YthncdjcmlpiebaaW12A
import Derived.Test.YthncdjcmlpiebaaW3A
import Derived.Test.YthncdjcmlpiebaaPurA
import Derived.Test.YthncdjcmlpiebaaW6b
import Derived.Deep.LoopGhost
namespace Go.Proofs.Ythncdjcmlpiebaa
open Go.RowKit
set_option maxRecDepth 100000 in
set_option maxHeartbeats 1000000 in
theorem reversed_any (bd : Addr) (m d : Nat) (xs : List Int) (w : World) (hL : RI w (some bd) m xs) (h0 : 0 < m) (hm : m ≤ 1048576) :
    Calls Try.prog 60 #[.slice (some bd) m d] w (GivesI xs.reverse w) := by
  have HX := Lib.hid hL.1
  go_enter Try.func60, Try.ntmps60
  go_wp2_with fail
  refine (slClone_any bd m d xs w hL h0 hm).mono ?_
  rintro e w1 ⟨g, c1, rfl, hown1, hb1⟩
  go_wp2_with fail
  refine (slReverse_any g m c1 w.heap.size xs w1 hown1 h0 hm).mono ?_
  rintro e w2 ⟨rfl, hown2, hg2⟩
  have hb2 : Below w.heap.size w w2 := hb1.grown hg2 hb1.size (by
    intro k hk
    injection hk with hk
    subst hk
    exact (hown1.block g rfl).1)
  go_wp2
  go_ret
  have hl : m = xs.reverse.length := by rw [List.length_reverse]; exact HX.out.symm
  exact ⟨some ⟨g, 0, none⟩, c1, by rw [← hl]; rfl, hown2.cast hl rfl, hb2⟩
set_option maxRecDepth 100000 in
set_option maxHeartbeats 1000000 in
theorem l6Reverse_any (bd : Addr) (m d : Nat) (xs : List Int) (w : World) (hL : RI w (some bd) m xs) (hm : m ≤ 1048575) :
    Calls Try.prog 61 #[.slice (some bd) m d] w (GivesI xs.reverse w) := by
  have HX := Lib.hid hL.1
  go_enter Try.func61, Try.ntmps61
  go_wp2_with fail
  go_loopw [3, 4] (fun s i wr => ∃ (k : Nat) (A' : Option Addr) (c' : Nat), k ≤ m ∧ s = .slice A' k c' ∧ i = .int .i64 ((m : Int) - 1 - k) ∧ OwnI wr w.heap.size A' k c' (xs.reverse.take k) ∧ Below w.heap.size w wr) (fun _ i _ => ((intOf i) + 1).toNat)
  case atStart => exact ⟨0, _, _, Nat.zero_le _, rfl, by go_num, OwnI.made w (Nat.le_refl _), by go_grown⟩
  case round =>
    obtain ⟨k, A', c', hk, rfl, rfl, hown, hb⟩ := hrel
    obtain ⟨wo, rfl⟩ : ∃ wo : World, wo = wr := ⟨_, rfl⟩
    by_cases hkm : k < m
    · obtain ⟨v, hv⟩ : ∃ v : Nat, v = m - 1 - k := ⟨_, rfl⟩
      have hvm : v < m := by omega
      have hvi : (m : Int) - 1 - k = v := by omega
      have hsub : (m : Int) - 1 - ((k + 1 : Nat) : Int) = (v : Int) - 1 := by omega
      have hcv : wo.cell? (bd.add v) = some (.int .i64 (xs.getD v 0)) := by
        obtain ⟨_, e, _, hc⟩ := (hL.up hb).at_ hvm
        injection e with e
        subst e
        exact hc
      have HT := Lib.hid (show xs.reverse.take (k + 1) = xs.reverse.take k ++ [xs.getD v 0] from by
        have := HX.out
        rw [take_snocI (by rw [List.length_reverse]; omega)]
        congr 2
        simp [List.getD, hv, HX.out, List.getElem?_reverse (show k < xs.length by omega)])
      obtain ⟨z, hz⟩ : ∃ z, z = xs.getD v 0 := ⟨_, rfl⟩
      rw [← hz] at hcv HT
      rw [hvi]
      clear hz hv
      have hcell := (Blk.new wo 3 #[.int .i64 z]).one
      have hsz := hb.size
      go_wp2_with (at_builtin; refine wpList_push rfl (.tmp 13) (.tmp 18) rfl z rfl (hown.alloc _) ⟨wo.heap.size, 0, none⟩ rfl hcell (by omega) (by simp; omega) ?_; intro A7 c7 w7 hown7 hb7 hg7)
      go_roundw
      case rel => exact ⟨k + 1, A7, c7, by omega, rfl, by rw [hsub], by rw [HT.out]; exact hown7, (hb.alloc hsz _).trans hb7⟩
      case measure => first | (simp [intOf]; done) | (simp [intOf]; omega)
    · obtain rfl : k = m := by omega
      have e : xs.reverse.length = k := by rw [List.length_reverse]; exact HX.out
      have ht : xs.reverse.take k = xs.reverse := List.take_of_length_le (by omega)
      rw [ht] at hown
      go_wp2
      go_ret
      subst e
      exact ⟨A', c', rfl, hown, hb⟩
end Go.Proofs.Ythncdjcmlpiebaa
namespace Go.Proofs.Ythncdjcmlpiebaa
open Go.RowKit
set_option maxRecDepth 100000 in
set_option maxHeartbeats 4000000 in
theorem implColorByOrder_any (N : Int) (A B : Option Addr) (n c m d : Nat) (X l : List Int) (w : World) (hX : RI w A n X) (hL : RI w B m l) (hn : n ≤ 1048576) (hm : m ≤ 1048576) (hmd : m ≤ d) (_hd : d ≤ 9223372036854775807) :
    Calls Try.prog 20 #[.agg #[.int .i64 N, .slice A n c], .slice B m d] w (GivesI (colOf N X l) w) := by
  rcases isOrder_cases N X l with hg | ⟨hg, k, Q, o, rfl, rfl, rfl, h, ho, hol⟩
  · rw [colOf_no hg]
    have H1 := Lib.hid hg
    clear hg
    go_enter Try.func20, Try.ntmps20
    go_wp2_with fail
    refine (implIsOrder_is (hX.up (by go_grown)) (hL.up (by go_grown)) (by omega) (by omega) hmd H1.out).mono ?_
    rintro e w1 ⟨rfl, hb1⟩
    have hU1 : Up w w1 := Up.then_ (by go_grown) hb1
    go_wp2
    go_ret
    exact givesI_of (l := []) (OwnI.nil_ _ _) hU1
  · rw [colOf_ok hg]
    have H1 := Lib.hid hg
    have e1 : n = k := by have := hX.1; rw [ints_len, h.len] at this; exact this.symm
    have e2 : m = k := by have := hL.1; rw [ints_len, hol] at this; exact this.symm
    subst e1 e2
    have hn7 := h.le
    have hn1 := h.pos
    have Hol := Lib.hid hol
    have HC := Lib.hid (colK_ok (Q := Q) ho (by omega))
    have Hat := Lib.hid fun k (hk : k < m) => ho.at_ (j := k) (by omega)
    have hmk := make_ints m (by omega)
    clear hg hol
    go_enter Try.func20, Try.ntmps20
    go_wp2_with fail
    refine (implIsOrder_is (hX.up (by go_grown)) (hL.up (by go_grown)) (by omega) (by omega) hmd H1.out).mono ?_
    rintro e w1 ⟨rfl, hb1⟩
    have hU1 : Up w w1 := Up.then_ (by go_grown) hb1
    replace hX := hX.up hU1
    replace hL := hL.up hU1
    have hblx := (Blk.new w 26 #[.int .i64 m, .slice A m c]).up hb1
    have hyx := hblx.two
    have hlx := hblx.lt
    have hgn := Blk.new w1 3 (natCells (colK Q o 0))
    have Hz := Lib.hid (show natCells (colK Q o 0) = zeros m by rw [colK, Hol.out]; exact natCells_zero m)
    obtain ⟨a, rfl, _, _⟩ := hX.addr h.pos
    obtain ⟨bl, rfl, _, _⟩ := hL.addr h.pos
    go_wp2_with fail
    clear hmk hyx
    go_loopw [20] (fun i wr => ∃ k : Nat, k ≤ m ∧ i = .int .i64 k ∧ Blk wr w1.heap.size 3 (natCells (colK Q o k)) ∧ Below w1.heap.size w1 wr) (fun i _ => m - (intOf i).toNat)
    case atStart => exact ⟨0, Nat.zero_le _, rfl, by rw [Hz.out] at hgn ⊢; exact hgn, by go_grown⟩
    case round =>
      clear hgn
      obtain ⟨k, hk, rfl, hg, hb⟩ := hrel
      obtain ⟨wo, rfl⟩ : ∃ wo : World, wo = wr := ⟨_, rfl⟩
      by_cases hkt : k < m
      · have hkd : k ≤ d := by omega
        have hvk := Hat.out k hkt
        have hcl := (hL.up hb).nbs hkt
        have hck := HC.out k (by rw [Hol.out]; exact hk)
        have HN := Lib.hid (show colK Q o (k + 1) = (colK Q o k).set (nb o k) (mex (usedL Q (colK Q o k) (nb o k) (o.take k))) from rfl)
        have hlen := colK_len Q o k
        obtain ⟨C, hCC⟩ : ∃ C, C = colK Q o k := ⟨_, rfl⟩
        rw [← hCC] at hg hck HN hlen
        clear hCC
        have HCk := Lib.hid hck
        have HCl := Lib.hid (show C.length = m by rw [hlen]; exact Hol.out)
        clear hck hlen
        obtain ⟨v, hv⟩ : ∃ v, v = nb o k := ⟨_, rfl⟩
        rw [← hv] at hvk hcl HN
        have Hv := Lib.hid hv
        clear hv
        go_wp2_with fail
        go_loopw [8, 29] (fun u i wr => ∃ j : Nat, j ≤ k ∧ i = .int .i64 j ∧ u = .int .i64 (usedL Q C v (o.take j)) ∧ Blk wr w1.heap.size 3 (natCells C) ∧ Below w1.heap.size w1 wr) (fun _ i _ => k - (intOf i).toNat)
        case atStart => exact ⟨0, Nat.zero_le _, rfl, rfl, hg, hb⟩
        case round =>
          clear hg hb hcl
          obtain ⟨j, hj, rfl, rfl, hg, hb⟩ := hrel
          by_cases hjt : j < k
          · have hyx := (hblx.up hb).two
            have hjm : j < m := by omega
            have hcl := (hL.up hb).nbs hjm
            have hvj := Hat.out j hjm
            have hca := (hX.up hb).nbs hvk
            have hcx := hg.nat (j := nb o j) (by rw [HCl.out]; exact hvj)
            have hts : o.take (j + 1) = o.take j ++ [nb o j] := by
              have := Hol.out
              rw [List.take_succ_eq_append_getElem (by omega)]
              simp [nb, List.getD, List.getElem?_eq_getElem (show j < o.length by omega)]
            have hmem : nb o j ∈ o.take k := by
              have := Hol.out
              have hj' : j < (o.take k).length := by rw [List.length_take]; omega
              have e : (o.take k)[j] = nb o j := by simp [nb, List.getD, List.getElem?_eq_getElem (show j < o.length by omega)]
              rw [← e]; exact List.getElem_mem hj'
            have hcb := HCk.out.1 _ hmem
            have hu7 : usedL Q C v (o.take j) < 2 ^ 7 := usedL_lt fun w hw => by
              have := HCk.out.1 w ((List.take_sublist_take_left (by omega)).mem hw)
              omega
            have hsh := shl_p2 (k := nb C (nb o j)) (by omega)
            have hp7 := p2_le (k := nb C (nb o j)) (by omega)
            have hor := i64_or_nat (usedL Q C v (o.take j)) (p2 (nb C (nb o j))) (by omega) (by omega)
            have hr7 := h.nb7 v
            rcases Bool.eq_false_or_eq_true (edge Q v (nb o j)) with e1 | e1
            · have HU := Lib.hid (show usedL Q C v (o.take (j + 1)) = usedL Q C v (o.take j) ||| p2 (nb C (nb o j)) by rw [hts, usedL_snoc, if_pos e1]; rfl)
              have E1 := Lib.hid (show (nb Q v).testBit (nb o j) = true from e1)
              clear hmem hts e1
              go_wp2_with (go_at_call 52; refine (has_eq (by omega) (by omega) E1.out).mono ?_; rintro e w' ⟨rfl, rfl⟩)
              go_roundw
              case rel => exact ⟨j + 1, by omega, by go_num, by rw [HU.out], hg, hb⟩
              case measure => simp [intOf]; omega
            · have HU := Lib.hid (show usedL Q C v (o.take (j + 1)) = usedL Q C v (o.take j) by rw [hts, usedL_snoc, if_neg (by rw [e1]; exact Bool.false_ne_true)])
              have E1 := Lib.hid (show (nb Q v).testBit (nb o j) = false from e1)
              clear hmem hts e1
              go_wp2_with (go_at_call 52; refine (has_eq (by omega) (by omega) E1.out).mono ?_; rintro e w' ⟨rfl, rfl⟩)
              go_roundw
              case rel => exact ⟨j + 1, by omega, by go_num, by rw [HU.out], hg, hb⟩
              case measure => simp [intOf]; omega
          · obtain rfl : j = k := by omega
            have hukt := usedL_lt (Q := Q) (v := v) (b := j) HCk.out.1
            have hmx := mex_lt (by omega) hukt
            have hvno : nb C v = 0 := HCk.out.2 v (by
              rw [Hv.out]
              intro hm
              obtain ⟨i, hi, e⟩ := List.mem_iff_getElem.1 hm
              rw [List.length_take] at hi
              have := Hol.out
              have e2 : nb o i = nb o j := by simp [nb, List.getD, List.getElem?_eq_getElem (show i < o.length by omega)] at e ⊢; exact e
              have := ho.inj (i := i) (j := j) (by omega) (by omega) e2
              omega)
            obtain ⟨u, hu⟩ : ∃ u, u = usedL Q C v (o.take j) := ⟨_, rfl⟩
            rw [← hu] at hukt hmx HN
            rw [← hu]
            clear hu
            have hu7 : u < 128 := Nat.lt_of_lt_of_le hukt (Nat.pow_le_pow_right (n := 2) (by omega) (by omega : j ≤ 7))
            obtain ⟨r, hr⟩ : ∃ r, r = mex u := ⟨_, rfl⟩
            rw [← hr] at hmx HN
            clear hr
            have Hmx := Lib.hid hmx
            have hrj := hmx.1
            have hset0 : C.set v 0 = C := by rw [← hvno, set_nb]
            rw [← hset0] at hg
            have HCl2 := Lib.hid HCl.out
            clear hmx hukt hset0 hvno
            go_wp2_with fail
            go_loopg [] 8 (fun g wr => ∃ q : Nat, q ≤ r ∧ g = 8 - q ∧ Blk wr w1.heap.size 3 (natCells (C.set v q)) ∧ Below w1.heap.size w1 wr)
            case atStart => exact ⟨0, Nat.zero_le _, rfl, hg, hb⟩
            case round =>
              clear hg hb
              obtain ⟨q, hq, hgk, hg, hb⟩ := hrel
              have Hgk := Lib.hid hgk
              clear hgk
              have hnv : nb (C.set v q) v = q := by rw [nb_set' (by rw [HCl.out]; exact hvk), if_pos rfl]
              have hcv := hg.nat (j := v) (by rw [List.length_set, HCl.out]; exact hvk)
              rw [hnv] at hcv
              have hfz := hg.frozen v
              have hq7 : q ≤ 7 := by omega
              clear hnv
              by_cases hqr : q < r
              · have E1 := Lib.hid (Hmx.out.2.2 q hqr)
                have hss : (C.set v q).set v (q + 1) = C.set v (q + 1) := by rw [List.set_set]
                have Hss := Lib.hid hss
                clear hss
                go_wp2_with (go_at_call 52; refine (has_eq (by omega) (by omega) E1.out).mono ?_; rintro e w' ⟨rfl, rfl⟩)
                go_roundg (8 - (q + 1))
                case measure => have := Hgk.out; omega
                case rel => exact ⟨q + 1, hqr, rfl, by have := hg.set_ v (.int .i64 ((q + 1 : Nat) : Int)); rw [natCells_set, Hss.out] at this; simpa using this, hb.setCell (Nat.le_refl _) _⟩
              · obtain rfl : q = r := by omega
                have E1 := Lib.hid Hmx.out.2.1
                go_wp2_with (go_at_call 52; refine (has_eq (by omega) (by omega) E1.out).mono ?_; rintro e w' ⟨rfl, rfl⟩)
                go_roundw
                case rel => exact ⟨j + 1, by omega, by go_num, by rw [HN.out]; exact hg, hb⟩
                case measure => simp [intOf]; omega
      · obtain rfl : k = m := by omega
        have hlen := colK_len Q o k
        have e := Hol.out
        go_wp2
        go_ret
        have hgv := hg.gives (w := w) hU1.size (by rw [hlen, e]; omega) (hU1.trans (hb.mono hU1.size))
        rw [hlen, e] at hgv
        rw [e]
        exact hgv
/-- Behind k vertices, as the reference has it: those that have not come are -1. -/
def colI (C : List Nat) (n : Nat) (l : List Nat) : List Int := (List.range n).map fun v => if v ∈ l then (nb C v : Int) else -1
theorem colI_len (C : List Nat) (n : Nat) (l : List Nat) : (colI C n l).length = n := by simp [colI]
theorem colI_at {C : List Nat} {n v : Nat} {l : List Nat} (h : v < n) : (colI C n l).getD v 0 = if v ∈ l then (nb C v : Int) else -1 := by simp [colI, List.getD, h]
theorem colI_all {C o : List Nat} {n : Nat} (ho : natVerts n o) (hl : o.length = n) (hC : C.length = n) : colI C n o = ints C := by
  apply List.ext_getElem
  · rw [colI_len, ints_len, hC]
  · intro i h1 h2
    rw [colI_len] at h1
    have hm := ho.all hl h1
    simp [colI, ints, hm, nb, List.getD, List.getElem?_eq_getElem (show i < C.length by omega)]
theorem colI_step {C : List Nat} {n v r : Nat} {l : List Nat} (hC : C.length = n) (hv : v < n) : (colI C n l).set v (r : Int) = colI (C.set v r) n (l ++ [v]) := by
  apply List.ext_getElem
  · rw [List.length_set, colI_len, colI_len]
  · intro i h1 h2
    rw [colI_len] at h2
    have e : nb (C.set v r) i = if i = v then r else nb C i := nb_set' (by omega)
    rw [List.getElem_set]
    by_cases hi : v = i
    · subst hi
      simp [colI, e]
    · have hi' : ¬ i = v := fun e => hi e.symm
      simp [colI, e, hi, hi']
theorem colI_zero {C : List Nat} (n : Nat) : colI C n [] = List.replicate n (-1) := by
  apply List.ext_getElem
  · rw [colI_len]; simp
  · intro i h1 h2
    simp [colI]
/-- The colours of the neighbours of v below j that have come. -/
def usedR (Q C : List Nat) (v : Nat) (l : List Nat) (j : Nat) : Nat := usedL Q C v ((List.range j).filter fun w => decide (w ∈ l))
theorem usedR_yes {Q C : List Nat} {v j : Nat} {l : List Nat} (h : j ∈ l) (he : edge Q v j = true) : usedR Q C v l (j + 1) = usedR Q C v l j ||| 2 ^ nb C j := by
  rw [usedR, List.range_succ, List.filter_append, List.filter_cons, List.filter_nil, if_pos (by simpa using h), usedL_snoc, if_pos he]; rfl
theorem usedR_off {Q C : List Nat} {v j : Nat} {l : List Nat} (he : edge Q v j = false) : usedR Q C v l (j + 1) = usedR Q C v l j := by
  rw [usedR, List.range_succ, List.filter_append, List.filter_cons, List.filter_nil]
  split
  · rw [usedL_snoc, if_neg (by rw [he]; exact Bool.false_ne_true)]; rfl
  · rw [List.append_nil]; rfl
theorem usedR_out {Q C : List Nat} {v j : Nat} {l : List Nat} (h : j ∉ l) : usedR Q C v l (j + 1) = usedR Q C v l j := by
  rw [usedR, List.range_succ, List.filter_append, List.filter_cons, List.filter_nil, if_neg (by simpa using h), List.append_nil]; rfl
theorem usedR_all {Q C : List Nat} {v n : Nat} {l : List Nat} (h : ∀ w ∈ l, w < n) : usedR Q C v l n = usedL Q C v l := by
  apply Nat.eq_of_testBit_eq
  intro i
  rw [Bool.eq_iff_iff, usedR, testBit_usedL, testBit_usedL]
  constructor
  · rintro ⟨w, hw, h1⟩
    rw [List.mem_filter] at hw
    exact ⟨w, by simpa using hw.2, h1⟩
  · rintro ⟨w, hw, h1⟩
    exact ⟨w, List.mem_filter.2 ⟨List.mem_range.2 (h w hw), by simpa using hw⟩, h1⟩
/-- A row of numbers as cells. -/
def intCells (xs : List Int) : Array Value := (xs.map (Value.int .i64)).toArray
theorem intCells_get {xs : List Int} {j : Nat} (h : j < xs.length) : (intCells xs)[j]? = some (.int .i64 (xs.getD j 0)) := by simp [intCells, List.getD, List.getElem?_eq_getElem h]
theorem intCells_set (xs : List Int) (x : Nat) (y : Int) : (intCells xs).setIfInBounds x (.int .i64 y) = intCells (xs.set x y) := by simp only [intCells, List.setIfInBounds_toArray, List.map_set]
theorem intCells_zero (n : Nat) : intCells (List.replicate n 0) = zeros n := by simp [intCells, zeros]
theorem Blk.int {w : World} {g j : Nat} {t : TypeId} {xs : List Int} (h : Blk w g t (intCells xs)) (hj : j < xs.length) : w.cell? ⟨g, j, none⟩ = some (.int .i64 (xs.getD j 0)) := by rw [h.cell, intCells_get hj]
def fillM (n k : Nat) : List Int := List.replicate k (-1) ++ List.replicate (n - k) 0
theorem fillM_len {n k : Nat} (h : k ≤ n) : (fillM n k).length = n := by simp [fillM]; omega
theorem fillM_set {n k : Nat} (h : k < n) : (fillM n k).set k (-1) = fillM n (k + 1) := by
  unfold fillM
  rw [List.set_append_right _ _ (by simp)]
  obtain ⟨m, hm⟩ : ∃ m, n - k = m + 1 := ⟨n - k - 1, by omega⟩
  have hm' : n - (k + 1) = m := by omega
  rw [hm, hm', List.replicate_succ (n := m), List.length_replicate, Nat.sub_self, List.set_cons_zero, List.replicate_succ' (n := k), List.append_assoc]
  rfl
theorem fillM_all (n : Nat) : fillM n n = List.replicate n (-1) := by simp [fillM]
set_option maxRecDepth 100000 in
set_option maxHeartbeats 4000000 in
theorem specColorByOrder_any (N : Int) (A B : Option Addr) (n c m d : Nat) (X l : List Int) (w : World) (hX : RI w A n X) (hL : RI w B m l) (hn : n ≤ 1048576) (hm : m ≤ 1048576) :
    Calls Try.prog 22 #[.agg #[.int .i64 N, .slice A n c], .slice B m d] w (GivesI (colOf N X l) w) := by
  rcases isOrder_cases N X l with hg | ⟨hg, k, Q, o, rfl, rfl, rfl, h, ho, hol⟩
  · rw [colOf_no hg]
    have H1 := Lib.hid hg
    clear hg
    go_enter Try.func22, Try.ntmps22
    go_wp2_with fail
    refine (specIsOrder_is (hX.up (by go_grown)) (hL.up (by go_grown)) (by omega) (by omega) H1.out).mono ?_
    rintro e w1 ⟨rfl, hb1⟩
    have hU1 : Up w w1 := Up.then_ (by go_grown) hb1
    have hown := OwnI.made (base := w.heap.size) w1 hU1.size
    have hww := hU1.alloc hU1.size (.cells #[] 3)
    go_wp2
    go_ret
    exact givesI_of (l := []) hown hww
  · rw [colOf_ok hg]
    have H1 := Lib.hid hg
    have e1 : n = k := by have := hX.1; rw [ints_len, h.len] at this; exact this.symm
    have e2 : m = k := by have := hL.1; rw [ints_len, hol] at this; exact this.symm
    subst e1 e2
    have hn7 := h.le
    have hn1 := h.pos
    have Hol := Lib.hid hol
    have HC := Lib.hid (colK_ok (Q := Q) ho (by omega))
    have Hat := Lib.hid fun k (hk : k < m) => ho.at_ (j := k) (by omega)
    have hmk := make_ints m (by omega)
    clear hg hol
    go_enter Try.func22, Try.ntmps22
    go_wp2_with fail
    refine (specIsOrder_is (hX.up (by go_grown)) (hL.up (by go_grown)) (by omega) (by omega) H1.out).mono ?_
    rintro e w1 ⟨rfl, hb1⟩
    have hU1 : Up w w1 := Up.then_ (by go_grown) hb1
    replace hX := hX.up hU1
    replace hL := hL.up hU1
    have hblx := (Blk.new w 26 #[.int .i64 m, .slice A m c]).up hb1
    have hyx := hblx.two
    have hlx := hblx.lt
    have hgn := Blk.new w1 3 (intCells (fillM m 0))
    have Hz := Lib.hid (show intCells (fillM m 0) = zeros m by rw [fillM]; exact intCells_zero m)
    obtain ⟨a, rfl, _, _⟩ := hX.addr h.pos
    obtain ⟨bl, rfl, _, _⟩ := hL.addr h.pos
    go_wp2_with fail
    clear hmk hyx
    go_loopw [6] (fun i wr => ∃ k : Nat, k ≤ m ∧ i = .int .i64 k ∧ Blk wr w1.heap.size 3 (intCells (fillM m k)) ∧ Below w1.heap.size w1 wr) (fun i _ => m - (intOf i).toNat)
    case atStart => exact ⟨0, Nat.zero_le _, rfl, by rw [Hz.out] at hgn ⊢; exact hgn, by go_grown⟩
    case round =>
      clear hgn
      obtain ⟨k, hk, rfl, hg, hb⟩ := hrel
      have hyx := (hblx.up hb).two
      by_cases hkt : k < m
      · have hcv := hg.int (j := k) (by rw [fillM_len hk]; exact hkt)
        have hfz := hg.frozen k
        have HF := Lib.hid (fillM_set hkt)
        go_wp2
        go_roundw
        case rel => exact ⟨k + 1, by omega, by go_num, by have := hg.set_ k (.int .i64 (-1)); rw [intCells_set, HF.out] at this; exact this, hb.setCell (Nat.le_refl _) _⟩
        case measure => simp [intOf]; omega
      · obtain rfl : k = m := by omega
        rw [fillM_all, ← colI_zero (C := colK Q o 0), ← List.take_zero (l := o)] at hg
        go_wp2_with fail
        clear hyx
        go_loopw [7] (fun i wr => ∃ i' : Nat, i' ≤ k ∧ i = .int .i64 i' ∧ Blk wr w1.heap.size 3 (intCells (colI (colK Q o i') k (o.take i'))) ∧ Below w1.heap.size w1 wr) (fun i _ => k - (intOf i).toNat)
        case atStart => exact ⟨0, Nat.zero_le _, rfl, hg, hb⟩
        case round =>
          clear hg hb
          obtain ⟨i, hi, rfl, hg, hb⟩ := hrel
          obtain ⟨wo, rfl⟩ : ∃ wo : World, wo = wr := ⟨_, rfl⟩
          by_cases hit : i < k
          · have hvi := Hat.out i hit
            have hck := HC.out i (by rw [Hol.out]; exact hi)
            have HN := Lib.hid (show colK Q o (i + 1) = (colK Q o i).set (nb o i) (mex (usedL Q (colK Q o i) (nb o i) (o.take i))) from rfl)
            have hlen := colK_len Q o i
            have hts : o.take (i + 1) = o.take i ++ [nb o i] := by
              have := Hol.out
              rw [List.take_succ_eq_append_getElem (by omega)]
              simp [nb, List.getD, List.getElem?_eq_getElem (show i < o.length by omega)]
            have Hts := Lib.hid hts
            have hall : ∀ x ∈ o.take i, x < k := fun x hx => ho.1 x (List.mem_of_mem_take hx)
            have HUA := Lib.hid (usedR_all (Q := Q) (C := colK Q o i) (v := nb o i) hall)
            obtain ⟨T, hT⟩ : ∃ T, T = o.take i := ⟨_, rfl⟩
            obtain ⟨C, hCC⟩ : ∃ C, C = colK Q o i := ⟨_, rfl⟩
            rw [← hCC, ← hT] at hg hck HN HUA
            rw [← hCC] at hlen
            rw [← hT] at Hts
            clear hCC hT hts hall
            have HCk := Lib.hid hck
            have HCl := Lib.hid (show C.length = k by rw [hlen]; exact Hol.out)
            clear hck hlen
            obtain ⟨v, hv⟩ : ∃ v, v = nb o i := ⟨_, rfl⟩
            rw [← hv] at hvi HN HUA Hts
            have Hv := Lib.hid hv
            clear hv
            go_wp2_with fail
            go_loopw [8, 9] (fun u s wr => ∃ j : Nat, j ≤ k ∧ s = .int .i64 j ∧ u = .int .i64 (usedR Q C v T j) ∧ Blk wr w1.heap.size 3 (intCells (colI C k T)) ∧ Below w1.heap.size w1 wr) (fun _ s _ => k - (intOf s).toNat)
            case atStart => exact ⟨0, Nat.zero_le _, rfl, rfl, hg, hb⟩
            case round =>
              clear hg hb
              obtain ⟨j, hj, rfl, rfl, hg, hb⟩ := hrel
              obtain ⟨wj, rfl⟩ : ∃ wj : World, wj = wr := ⟨_, rfl⟩
              have hyx := (hblx.up hb).two
              have hlx2 := (hblx.up hb).lt
              have hlg := hg.lt
              have hXj := hX.up hb
              have hLj := hL.up hb
              obtain ⟨_, eb, hbl, _⟩ := hLj.addr (show 0 < k by omega)
              injection eb with eb
              subst eb
              have hci := hLj.nbs hit
              rw [← Hv.out] at hci
              by_cases hjt : j < k
              · have hcj := hg.int (j := j) (by rw [colI_len]; exact hjt)
                rw [colI_at hjt] at hcj
                rcases Bool.eq_false_or_eq_true (edge Q v j) with e1 | e1
                · have E1 := Lib.hid (show (nb Q v).testBit j = true from e1)
                  by_cases e2 : j ∈ T
                  · rw [if_pos e2] at hcj
                    have hcb := HCk.out.1 j e2
                    have HU := Lib.hid (usedR_yes (Q := Q) (C := C) e2 e1)
                    have hu7 : usedR Q C v T j < 2 ^ 7 := usedL_lt fun x hx => by
                      have := HCk.out.1 x (by simpa using (List.mem_filter.1 hx).2)
                      omega
                    have hsh := shl_p2 (k := nb C j) (by omega)
                    have hp7 := p2_le (k := nb C j) (by omega)
                    have hor := i64_or_nat (usedR Q C v T j) (p2 (nb C j)) (by omega) (by omega)
                    clear e1 e2
                    go_wp2
                    have hV0 : Up wj wj.drew := (Up.refl _).drew
                    refine wp_region_calm (S := (fun w' => Up wj w' ∧ (∀ b o, b < wj.heap.size → w'.cell? ⟨b, o, none⟩ = wj.cell? ⟨b, o, none⟩) ∧ w'.cell? (bl.add i) = some (.int .i64 v))) (by kernel_rfl) (by kernel_rfl) (by exact ⟨hV0, fun _ _ hb => hV0.cell hb, (hV0.cell (by first | assumption | (rw [block_of_add]; assumption))).trans (by assumption)⟩) ?_
                    repeat (first | (refine CalmSeq.cons undef (Calm.off (by rfl)) ?_; (try simp only [Act.put, List.setIfInBounds_toArray, List.set_cons_zero, List.set_cons_succ])) | (refine CalmSeq.cons ?_ (Calm.val (by rfl) ?_) ?_; rotate_left; (intro wC hSw; (try dsimp only at hSw); go_simp; done); (try simp only [Act.put, List.setIfInBounds_toArray, List.set_cons_zero, List.set_cons_succ])) | (refine CalmSeq.cons ?_ (Calm.val (by rfl) ?_) ?_; rotate_left; (intro wC hSw; (try dsimp only at hSw); go_simp; with_reducible rfl); (try simp only [Act.put, List.setIfInBounds_toArray, List.set_cons_zero, List.set_cons_succ])) | ((refine CalmSeq.cons ?_ (Calm.call (f := ?_) (args := ?_) (by rfl) ?_ (fun wC hSw => ?_)) ?_; rotate_left 3; (intro wC; go_simp; (refine ⟨?_, ?_⟩ <;> with_reducible rfl)); (go_at_call 69; (with_reducible refine (l2Edge_is (hXj.up hSw.1) h hvi hjt E1.out).mono ?_); rintro e wD ⟨rfl, hbD⟩; apply And.intro; (with_reducible rfl); (have hUD := Up.then_ hSw.1 hbD; exact ⟨hUD, fun _ _ hb => hUD.cell hb, (hUD.cell (by first | assumption | (rw [block_of_add]; assumption))).trans (by assumption)⟩))); (try simp only [Act.put, List.setIfInBounds_toArray, List.set_cons_zero, List.set_cons_succ])))
                    intro wX1 hSX1
                    have hUX1 : Up wj wX1 := hSX1.1
                    clear hSX1 hV0
                    have hg1 := hg.up hUX1
                    have hcj1 : wX1.cell? ⟨w1.heap.size, j, none⟩ = some (.int .i64 (nb C j)) := (hUX1.cell (p := ⟨w1.heap.size, j, none⟩) hlg).trans hcj
                    go_wp2
                    go_roundw
                    case rel => exact ⟨j + 1, by omega, by go_num, by rw [HU.out]; rfl, hg1, Up.then_ hb hUX1⟩
                    case measure => simp [intOf]; omega
                  · rw [if_neg e2] at hcj
                    have HU := Lib.hid (usedR_out (Q := Q) (C := C) (v := v) e2)
                    clear e1 e2
                    go_wp2
                    have hV0 : Up wj wj.drew := (Up.refl _).drew
                    refine wp_region_calm (S := (fun w' => Up wj w' ∧ (∀ b o, b < wj.heap.size → w'.cell? ⟨b, o, none⟩ = wj.cell? ⟨b, o, none⟩) ∧ w'.cell? (bl.add i) = some (.int .i64 v))) (by kernel_rfl) (by kernel_rfl) (by exact ⟨hV0, fun _ _ hb => hV0.cell hb, (hV0.cell (by first | assumption | (rw [block_of_add]; assumption))).trans (by assumption)⟩) ?_
                    repeat (first | (refine CalmSeq.cons undef (Calm.off (by rfl)) ?_; (try simp only [Act.put, List.setIfInBounds_toArray, List.set_cons_zero, List.set_cons_succ])) | (refine CalmSeq.cons ?_ (Calm.val (by rfl) ?_) ?_; rotate_left; (intro wC hSw; (try dsimp only at hSw); go_simp; done); (try simp only [Act.put, List.setIfInBounds_toArray, List.set_cons_zero, List.set_cons_succ])) | (refine CalmSeq.cons ?_ (Calm.val (by rfl) ?_) ?_; rotate_left; (intro wC hSw; (try dsimp only at hSw); go_simp; with_reducible rfl); (try simp only [Act.put, List.setIfInBounds_toArray, List.set_cons_zero, List.set_cons_succ])) | ((refine CalmSeq.cons ?_ (Calm.call (f := ?_) (args := ?_) (by rfl) ?_ (fun wC hSw => ?_)) ?_; rotate_left 3; (intro wC; go_simp; (refine ⟨?_, ?_⟩ <;> with_reducible rfl)); (go_at_call 69; (with_reducible refine (l2Edge_is (hXj.up hSw.1) h hvi hjt E1.out).mono ?_); rintro e wD ⟨rfl, hbD⟩; apply And.intro; (with_reducible rfl); (have hUD := Up.then_ hSw.1 hbD; exact ⟨hUD, fun _ _ hb => hUD.cell hb, (hUD.cell (by first | assumption | (rw [block_of_add]; assumption))).trans (by assumption)⟩))); (try simp only [Act.put, List.setIfInBounds_toArray, List.set_cons_zero, List.set_cons_succ])))
                    intro wX1 hSX1
                    have hUX1 : Up wj wX1 := hSX1.1
                    clear hSX1 hV0
                    go_wp2
                    go_roundw
                    case rel => exact ⟨j + 1, by omega, by go_num, by rw [HU.out], hg.up hUX1, Up.then_ hb hUX1⟩
                    case measure => simp [intOf]; omega
                · have E1 := Lib.hid (show (nb Q v).testBit j = false from e1)
                  have HU := Lib.hid (usedR_off (C := C) (l := T) e1)
                  clear e1
                  go_wp2
                  have hV0 : Up wj wj.drew := (Up.refl _).drew
                  refine wp_region_calm (S := (fun w' => Up wj w' ∧ (∀ b o, b < wj.heap.size → w'.cell? ⟨b, o, none⟩ = wj.cell? ⟨b, o, none⟩) ∧ w'.cell? (bl.add i) = some (.int .i64 v))) (by kernel_rfl) (by kernel_rfl) (by exact ⟨hV0, fun _ _ hb => hV0.cell hb, (hV0.cell (by first | assumption | (rw [block_of_add]; assumption))).trans (by assumption)⟩) ?_
                  repeat (first | (refine CalmSeq.cons undef (Calm.off (by rfl)) ?_; (try simp only [Act.put, List.setIfInBounds_toArray, List.set_cons_zero, List.set_cons_succ])) | (refine CalmSeq.cons ?_ (Calm.val (by rfl) ?_) ?_; rotate_left; (intro wC hSw; (try dsimp only at hSw); go_simp; done); (try simp only [Act.put, List.setIfInBounds_toArray, List.set_cons_zero, List.set_cons_succ])) | (refine CalmSeq.cons ?_ (Calm.val (by rfl) ?_) ?_; rotate_left; (intro wC hSw; (try dsimp only at hSw); go_simp; with_reducible rfl); (try simp only [Act.put, List.setIfInBounds_toArray, List.set_cons_zero, List.set_cons_succ])) | ((refine CalmSeq.cons ?_ (Calm.call (f := ?_) (args := ?_) (by rfl) ?_ (fun wC hSw => ?_)) ?_; rotate_left 3; (intro wC; go_simp; (refine ⟨?_, ?_⟩ <;> with_reducible rfl)); (go_at_call 69; (with_reducible refine (l2Edge_is (hXj.up hSw.1) h hvi hjt E1.out).mono ?_); rintro e wD ⟨rfl, hbD⟩; apply And.intro; (with_reducible rfl); (have hUD := Up.then_ hSw.1 hbD; exact ⟨hUD, fun _ _ hb => hUD.cell hb, (hUD.cell (by first | assumption | (rw [block_of_add]; assumption))).trans (by assumption)⟩))); (try simp only [Act.put, List.setIfInBounds_toArray, List.set_cons_zero, List.set_cons_succ])))
                  intro wX1 hSX1
                  have hUX1 : Up wj wX1 := hSX1.1
                  clear hSX1 hV0
                  go_wp2
                  go_roundw
                  case rel => exact ⟨j + 1, by omega, by go_num, by rw [HU.out], hg.up hUX1, Up.then_ hb hUX1⟩
                  case measure => simp [intOf]; omega
              · obtain rfl : j = k := by omega
                rw [HUA.out]
                have hukt := usedL_lt (Q := Q) (v := v) (b := i) HCk.out.1
                have hmx := mex_lt (by omega) hukt
                obtain ⟨u, hu⟩ : ∃ u, u = usedL Q C v T := ⟨_, rfl⟩
                rw [← hu] at hukt hmx HN
                rw [← hu]
                clear hu
                have hu7 : u < 128 := Nat.lt_of_lt_of_le hukt (Nat.pow_le_pow_right (n := 2) (by omega) (by omega : i ≤ 7))
                obtain ⟨r, hr⟩ : ∃ r, r = mex u := ⟨_, rfl⟩
                rw [← hr] at hmx HN
                clear hr
                have Hmx := Lib.hid hmx
                have hrj := hmx.1
                clear hmx hukt
                go_wp2_with fail
                go_loop [10] (fun s => ∃ q : Nat, q ≤ r ∧ s = .int .i64 q) (fun s => 8 - (intOf s).toNat)
                case atStart => exact ⟨0, Nat.zero_le _, rfl⟩
                case round =>
                  obtain ⟨q, hq, rfl⟩ := hrel
                  have hbit := bit_one u q (by omega)
                  by_cases hqr : q < r
                  · rw [Hmx.out.2.2 q hqr] at hbit
                    go_wp2
                    go_round
                    case rel => exact ⟨q + 1, by omega, by go_num⟩
                    case measure => simp [intOf]; omega
                  · obtain rfl : q = r := by omega
                    rw [Hmx.out.2.1] at hbit
                    have hcv := hg.int (j := v) (by rw [colI_len]; exact hvi)
                    have hfz := hg.frozen v
                    have HS := Lib.hid (colI_step (r := q) (l := T) HCl.out hvi)
                    go_wp2
                    go_roundw
                    case rel => exact ⟨i + 1, by omega, by go_num, by have := hg.set_ v (.int .i64 (q : Int)); rw [intCells_set, HS.out] at this; rw [Hts.out, HN.out]; exact this, hb.setCell (Nat.le_refl _) _⟩
                    case measure => simp [intOf]; omega
          · obtain rfl : i = k := by omega
            have hlen := colK_len Q o i
            have e := Hol.out
            have ht : o.take i = o := List.take_of_length_le (by omega)
            rw [ht, colI_all ho e (by rw [hlen, e])] at hg
            go_wp2
            go_ret
            have hgv := Blk.gives (o := colK Q o i) (w := w) hg hU1.size (by rw [hlen, e]; omega) (hU1.trans (hb.mono hU1.size))
            rw [hlen, e] at hgv
            rw [e]
            exact hgv
end Go.Proofs.Ythncdjcmlpiebaa
namespace Go.Proofs.Ythncdjcmlpiebaa
open Go.RowKit
def chordL (N : Int) (X : List Int) : List Int := match elimOf N X with | none => [] | some o => colOf N X (ints o).reverse
theorem GivesI.ib {xs : List Int} {w : World} {e : Ending} {w' : World} (h : GivesI xs w e w') : ∃ A c, e = .returned (.slice A xs.length c) ∧ OwnI w' w.heap.size A xs.length c xs ∧ Below w.heap.size w w' := h
theorem elim_out {o : List Nat} {w w' : World} {e : Ending} (h : GivesIB (optL (some o)) (some o).isSome w e w') : ∃ A c, e = .returned (.tuple #[.slice A o.length c, .bool true]) ∧ OwnI w' w.heap.size A o.length c (ints o) ∧ Below w.heap.size w w' := by
  obtain ⟨A, c, h1, h2, h3⟩ := h
  have e : (optL (some o)).length = o.length := ints_len o
  rw [e] at h1 h2
  exact ⟨A, c, h1, h2, h3⟩
theorem GivesI.as {xs : List Int} {m : Nat} {w w' : World} {e : Ending} (h : GivesI xs w e w') (hl : xs.length = m) : ∃ A c, e = .returned (.slice A m c) ∧ OwnI w' w.heap.size A m c xs ∧ Below w.heap.size w w' := by
  subst hl; exact h
theorem rev_len {xs : List Int} {m : Nat} (h : xs.length = m) : xs.reverse.length = m := by rw [List.length_reverse]; exact h
theorem reversed_out {bd : Addr} {m d : Nat} {xs : List Int} {w : World} (hL : RI w (some bd) m xs) (h0 : 0 < m) (hm : m ≤ 1048576) :
    Calls Try.prog 60 #[.slice (some bd) m d] w fun e w' => ∃ A c, e = .returned (.slice A m c) ∧ OwnI w' w.heap.size A m c xs.reverse ∧ Below w.heap.size w w' :=
  (reversed_any bd m d xs w hL h0 hm).mono fun _ _ h => h.as (rev_len hL.1)
theorem l6Reverse_out {bd : Addr} {m d : Nat} {xs : List Int} {w : World} (hL : RI w (some bd) m xs) (hm : m ≤ 1048575) :
    Calls Try.prog 61 #[.slice (some bd) m d] w fun e w' => ∃ A c, e = .returned (.slice A m c) ∧ OwnI w' w.heap.size A m c xs.reverse ∧ Below w.heap.size w w' :=
  (l6Reverse_any bd m d xs w hL hm).mono fun _ _ h => h.as (rev_len hL.1)
set_option maxRecDepth 100000 in
set_option maxHeartbeats 400000 in
theorem implChordalColoring_any (N : Int) (A : Option Addr) (n c : Nat) (X : List Int) (w : World) (hX : RI w A n X) (hn : n ≤ 1048576) :
    Calls Try.prog 16 #[.agg #[.int .i64 N, .slice A n c]] w (GivesIB (chordL N X) (elimOf N X).isSome w) := by
  rcases he : elimOf N X with _ | o
  · rw [chordL, he]
    have HE := Lib.hid he
    clear he
    go_enter Try.func16, Try.ntmps16
    have hc := implEliminationOf_any N A n c X (w.alloc (.cells #[.int .i64 N, .slice A n c] 26)) (hX.up (by go_grown)) (by omega)
    rw [HE.out] at hc
    have Hc := Lib.hid hc
    clear hc
    go_wp2_with fail
    refine (Hc.out).mono ?_
    rintro e w1 ⟨A1, c1, rfl, hown1, hb1⟩
    have hU1 : Up w w1 := Up.then_ (by go_grown) hb1
    go_wp2
    go_ret2
    exact givesIB_none (OwnI.nil_ _ _) (Nat.le_refl _) hU1
  · have hg : ∃ (k : Nat) (Q : List Nat), N = k ∧ X = ints Q ∧ GOk k Q := by
      rcases isGraph_cases N X with hg | hg
      · rw [elimOf_no hg] at he; cases he
      · exact hg
    obtain ⟨k, Q, rfl, rfl, h⟩ := hg
    obtain rfl : n = k := by rw [← hX.1, ints_len, h.len]
    have hlen := elimOf_len h he
    have hcl : chordL n (ints Q) = colOf n (ints Q) (ints o).reverse := by rw [chordL, he]
    rw [hcl]
    have HE := Lib.hid he
    have Hrl := Lib.hid (show (ints o).reverse.length = o.length by rw [List.length_reverse, ints_len])
    clear he hcl
    go_enter Try.func16, Try.ntmps16
    have hc := implEliminationOf_any n A n c (ints Q) (w.alloc (.cells #[.int .i64 n, .slice A n c] 26)) (hX.up (by go_grown)) (by omega)
    rw [HE.out] at hc
    have Hc := Lib.hid (hc.mono fun _ _ h => elim_out h)
    clear hc
    go_wp2_with fail
    refine (Hc.out).mono ?_
    rintro e w1 ⟨A1, c1, rfl, hown1, hb1⟩
    have hU1 : Up w w1 := Up.then_ (by go_grown) hb1
    replace hX := hX.up hU1
    have hblk := (Blk.new w 26 #[.int .i64 n, .slice A n c]).up hb1
    have hyb := hblk.two
    have hlb := hblk.lt
    have hri1 : RI w1 A1 o.length (ints o) := hown1.ri
    obtain ⟨bd, rfl, _, _⟩ := hri1.addr (by omega)
    go_wp2_with fail
    go_wp2
    have hV0 : Up w1 w1.drew := (Up.refl _).drew
    go_region_held3 (fun w' => Up w1 w' ∧ (∀ b o, b < w1.heap.size → w'.cell? ⟨b, o, none⟩ = w1.cell? ⟨b, o, none⟩)) (first | exact (by exact ⟨hV2, fun _ _ hb => hV2.cell hb⟩) | exact (by exact ⟨hV1, fun _ _ hb => hV1.cell hb⟩) | exact (by exact ⟨hV0, fun _ _ hb => hV0.cell hb⟩)) (first | (go_at_call 60; refine (reversed_out (hri1.up hV0) (by omega) (by omega)).mono ?_; rintro e w20 ⟨A2, c2, rfl, hown2, hb20⟩; have hV1 := Up.then_ hV0 hb20) | (go_at_call 20; refine (implColorByOrder_any n A A2 n c o.length c2 (ints Q) (ints o).reverse _ (hX.up hV1) hown2.ri hn (by omega) hown2.cap.1 hown2.cap.2).mono ?_; rintro e w21 ⟨A3, c3, rfl, hown3, hb21⟩; have hV2 := Up.then_ hV1 hb21))
    have hU2 := hV2
    replace hX := hX.up hU2
    go_wp2
    go_ret2
    exact ⟨A3, c3, rfl, hown3.more (Nat.le_trans hU1.size (Nat.le_trans (by simp) hb20.size)), Up.then_ hU1 hU2⟩
set_option maxRecDepth 100000 in
set_option maxHeartbeats 400000 in
theorem specChordalColoring_any (N : Int) (A : Option Addr) (n c : Nat) (X : List Int) (w : World) (hX : RI w A n X) (hn : n ≤ 1048576) :
    Calls Try.prog 17 #[.agg #[.int .i64 N, .slice A n c]] w (GivesIB (chordL N X) (elimOf N X).isSome w) := by
  rcases he : elimOf N X with _ | o
  · rw [chordL, he]
    have HE := Lib.hid he
    clear he
    go_enter Try.func17, Try.ntmps17
    have hc := specEliminationOf_any N A n c X (w.alloc (.cells #[.int .i64 N, .slice A n c] 26)) (hX.up (by go_grown)) (by omega)
    rw [HE.out] at hc
    have Hc := Lib.hid hc
    clear hc
    go_wp2_with fail
    refine (Hc.out).mono ?_
    rintro e w1 ⟨A1, c1, rfl, hown1, hb1⟩
    have hU1 : Up w w1 := Up.then_ (by go_grown) hb1
    have hown2 := OwnI.made (base := w.heap.size) w1 hU1.size
    go_wp2
    go_ret2
    exact givesIB_none hown2 (Nat.le_refl _) (hU1.alloc hU1.size _)
  · have hg : ∃ (k : Nat) (Q : List Nat), N = k ∧ X = ints Q ∧ GOk k Q := by
      rcases isGraph_cases N X with hg | hg
      · rw [elimOf_no hg] at he; cases he
      · exact hg
    obtain ⟨k, Q, rfl, rfl, h⟩ := hg
    obtain rfl : n = k := by rw [← hX.1, ints_len, h.len]
    have hlen := elimOf_len h he
    have hcl : chordL n (ints Q) = colOf n (ints Q) (ints o).reverse := by rw [chordL, he]
    rw [hcl]
    have HE := Lib.hid he
    have Hrl := Lib.hid (show (ints o).reverse.length = o.length by rw [List.length_reverse, ints_len])
    clear he hcl
    go_enter Try.func17, Try.ntmps17
    have hc := specEliminationOf_any n A n c (ints Q) (w.alloc (.cells #[.int .i64 n, .slice A n c] 26)) (hX.up (by go_grown)) (by omega)
    rw [HE.out] at hc
    have Hc := Lib.hid (hc.mono fun _ _ h => elim_out h)
    clear hc
    go_wp2_with fail
    refine (Hc.out).mono ?_
    rintro e w1 ⟨A1, c1, rfl, hown1, hb1⟩
    have hU1 : Up w w1 := Up.then_ (by go_grown) hb1
    replace hX := hX.up hU1
    have hblk := (Blk.new w 26 #[.int .i64 n, .slice A n c]).up hb1
    have hyb := hblk.two
    have hlb := hblk.lt
    have hri1 : RI w1 A1 o.length (ints o) := hown1.ri
    obtain ⟨bd, rfl, _, _⟩ := hri1.addr (by omega)
    go_wp2_with fail
    go_wp2
    have hV0 : Up w1 w1.drew := (Up.refl _).drew
    go_region_held3 (fun w' => Up w1 w' ∧ (∀ b o, b < w1.heap.size → w'.cell? ⟨b, o, none⟩ = w1.cell? ⟨b, o, none⟩)) (first | exact (by exact ⟨hV2, fun _ _ hb => hV2.cell hb⟩) | exact (by exact ⟨hV1, fun _ _ hb => hV1.cell hb⟩) | exact (by exact ⟨hV0, fun _ _ hb => hV0.cell hb⟩)) (first | (go_at_call 61; refine (l6Reverse_out (hri1.up hV0) (by omega)).mono ?_; rintro e w20 ⟨A2, c2, rfl, hown2, hb20⟩; have hV1 := Up.then_ hV0 hb20) | (go_at_call 22; refine (specColorByOrder_any n A A2 n c o.length c2 (ints Q) (ints o).reverse _ (hX.up hV1) hown2.ri hn (by omega)).mono ?_; rintro e w21 ⟨A3, c3, rfl, hown3, hb21⟩; have hV2 := Up.then_ hV1 hb21))
    have hU2 := hV2
    replace hX := hX.up hU2
    go_wp2
    go_ret2
    exact ⟨A3, c3, rfl, hown3.more (Nat.le_trans hU1.size (Nat.le_trans (by simp) hb20.size)), Up.then_ hU1 hU2⟩
end Go.Proofs.Ythncdjcmlpiebaa
