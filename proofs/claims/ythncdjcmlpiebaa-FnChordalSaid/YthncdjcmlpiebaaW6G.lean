/- Walks of chapter 6: what is filled along an order, the program's. -/
import Derived.Test.YthncdjcmlpiebaaSS2
import Derived.Test.YthncdjcmlpiebaaW2g
import Derived.Test.YthncdjcmlpiebaaW6B
import Derived.Test.YthncdjcmlpiebaaPurG
namespace Go.Proofs.Ythncdjcmlpiebaa
open Go.RowKit
/-- A slice of rows and a flag. -/
def GivesRB (xss : List (List Int)) (b : Bool) (w : World) (e : Ending) (w' : World) : Prop := ∃ A c ps, ps.map Prod.snd = xss ∧ e = .returned (.tuple #[.slice A ps.length c, .bool b]) ∧ OwnS w' w.heap.size A ps.length c ps ∧ Below w.heap.size w w'
/-- The first k edges that are new. -/
def newE (Q : List Nat) (E : List (Nat × Nat)) (k : Nat) : List (Nat × Nat) := (E.take k).filter fun p => !edge Q p.1 p.2
theorem newE_yes {Q : List Nat} {E : List (Nat × Nat)} {k : Nat} (hk : k < E.length) (h : edge Q E[k].1 E[k].2 = false) : newE Q E (k + 1) = newE Q E k ++ [E[k]] := by
  rw [newE, List.take_succ_eq_append_getElem hk, List.filter_append]
  simp [newE, h]
theorem newE_no {Q : List Nat} {E : List (Nat × Nat)} {k : Nat} (hk : k < E.length) (h : edge Q E[k].1 E[k].2 = true) : newE Q E (k + 1) = newE Q E k := by
  rw [newE, List.take_succ_eq_append_getElem hk, List.filter_append]
  simp [newE, h]
theorem newE_len (Q : List Nat) (E : List (Nat × Nat)) (k : Nat) : (newE Q E k).length ≤ E.length := by
  have h1 := List.length_filter_le (fun p : Nat × Nat => !edge Q p.1 p.2) (E.take k)
  have h2 : (E.take k).length ≤ E.length := by rw [List.length_take]; omega
  exact Nat.le_trans h1 h2
theorem edges_few {n : Nat} {Q : List Nat} (h7 : n ≤ 7) : (edges Q n).length ≤ 49 := by
  have h1 := edgK_len Q n n
  have h2 : n * n ≤ 7 * 7 := Nat.mul_le_mul h7 h7
  unfold edges
  omega
theorem edges_lt {n : Nat} {Q : List Nat} {p : Nat × Nat} (hp : p ∈ edges Q n) : p.1 < n ∧ p.2 < n := by
  have := (mem_edgK (k := n)).1 hp
  exact ⟨this.1, this.2.2.1⟩
theorem joinI_lt {n : Nat} {Q : List Nat} (h : GOk n Q) {L : Nat} (hL2 : L < 2 ^ n) (hL : ∀ i, L.testBit i = true → i < n) : ∀ k, k ≤ (listOf L).length → ∀ a, nb (joinI Q L k) a < 2 ^ n
  | 0, _, a => h.lt a
  | k + 1, hk, a => by
    have hw := listOf_nb (L := L) (k := k) (by omega)
    rw [joinI, nb_set' (by rw [joinI_len, h.len]; exact hL _ hw.2)]
    by_cases e : a = nb (listOf L) k
    · rw [if_pos e]
      exact Nat.or_lt_two_pow (joinI_lt h hL2 hL k (by omega) _) (dif_lt hL2)
    · rw [if_neg e]
      exact joinI_lt h hL2 hL k (by omega) a
theorem has_upG {s v : Nat} {w : World} {b : Bool} (hs : s < 128) (hv : v < 62) (h : s.testBit v = b) : Calls Try.prog 52 #[.int .i64 s, .int .i64 v] w fun e w' => e = .returned (.bool b) ∧ Below w.heap.size w w' :=
  (has_is (by omega) (by omega) h).mono fun _ _ k => ⟨k.1, by rw [k.2]; exact Below.refl _ _⟩
set_option maxRecDepth 100000 in
set_option maxHeartbeats 4000000 in
theorem implFillOf_any (N : Int) (A B : Option Addr) (n c m d : Nat) (X l : List Int) (w : World) (hX : RI w A n X) (hL : RI w B m l) (hn : n ≤ 1048576) (hm : m ≤ 1048576) (hmd : m ≤ d) :
    Calls Try.prog 31 #[.agg #[.int .i64 N, .slice A n c], .slice B m d] w (GivesRB ((fillOf N X l).map row2) (isOrder N X l) w) := by
  have hbk := Blk.new w 26 #[.int .i64 N, .slice A n c]
  have hU0 : Up w (w.alloc (.cells #[.int .i64 N, .slice A n c] 26)) := by go_grown
  have hyb := hbk.two
  rcases isOrder_cases N X l with hg | ⟨hg, k, Q, o, rfl, rfl, rfl, h, ho, hol⟩
  · have H1 := Lib.hid hg
    rw [fillOf_no hg, hg]
    clear hg
    go_enter Try.func31, Try.ntmps31
    go_wp2_with fail
    refine (implIsOrder_is (hX.up hU0) (hL.up hU0) (by omega) (by omega) hmd H1.out).mono ?_
    rintro e w1 ⟨rfl, hb1⟩
    go_wp2
    go_ret2
    exact ⟨none, 0, [], rfl, rfl, OwnS.nil_ _ _, Up.then_ hU0 hb1⟩
  · obtain rfl : n = k := by rw [← hX.1, ints_len, h.len]
    obtain rfl : m = n := by rw [← hL.1, ints_len, hol]
    have hn7 := h.le
    have hn1 := h.pos
    have H1 := Lib.hid hg
    rw [fillOf_ok hg h, hg]
    clear hg
    obtain ⟨ad, rfl, hab, _⟩ := hX.addr hn1
    obtain ⟨bd, rfl, hbb, _⟩ := hL.addr hn1
    have HR : fillL Q o m = newE Q (edges (fillK Q o m) m) (edges (fillK Q o m) m).length := by rw [newE, List.take_length]; rfl
    have HO := Lib.hid ho
    have HOL := Lib.hid hol
    have HQ := Lib.hid h
    have HK := Lib.hid fun k => fillK_ok (o := o) h k
    have HLw := Lib.hid hL
    have HXw := Lib.hid hX
    have HF0 := Lib.hid (show fillK Q o 0 = Q from rfl)
    rw [HR]
    clear HR ho hol
    go_enter Try.func31, Try.ntmps31
    go_wp2_with fail
    refine (implIsOrder_is (hX.up hU0) (hL.up hU0) (by omega) (by omega) hmd H1.out).mono ?_
    rintro e w1 ⟨rfl, hb1⟩
    have hbk1 := hbk.up hb1
    have hU1 := Up.then_ hU0 hb1
    have hyb1 := hbk1.two
    clear hbk hU0 hb1 hyb hX hL
    go_wp2_with fail
    refine (copyGraph_own m ad m c (ints Q) w1 (HXw.out.up hU1) (by omega)).mono ?_
    rintro e w2 ⟨A2, c2, rfl, hO2, hb2⟩
    obtain ⟨A2, rfl⟩ := hO2.form hn1
    have hs2 := hb2.size
    have hs1 := hU1.size
    have hU3 : Up w2 ((w2.alloc (.cells #[] 24)).alloc (.cells #[.int .i64 m, .slice (some ⟨A2, 0, none⟩) m c2] 26)) := by go_grown
    have hS3 := (OwnS.made (w := w2) (g := w2.heap.size) (base := w.heap.size + 1) rfl (by have := hbk1.lt; omega)).alloc (.cells #[.int .i64 m, .slice (some ⟨A2, 0, none⟩) m c2] 26)
    have hB3 : Blk ((w2.alloc (.cells #[] 24)).alloc (.cells #[.int .i64 m, .slice (some ⟨A2, 0, none⟩) m c2] 26)) (w2.heap.size + 1) 26 #[.int .i64 m, .slice (some ⟨A2, 0, none⟩) m c2] := Blk.new_at (by simp)
    go_wp2_with fail
    generalize (w2.alloc (.cells #[] 24)).alloc (.cells #[.int .i64 m, .slice (some ⟨A2, 0, none⟩) m c2] 26) = w3 at hU3 hS3 hB3 ⊢
    have hbk3 := (hbk1.up hb2).up hU3
    have hO3 := (hO2.more (base' := w.heap.size + 1) (by have := hbk1.lt; omega)).up hU3
    have hw3 := Up.then_ (Up.then_ hU1 hb2) hU3
    have hA2 : w.heap.size + 1 ≤ A2 := (hO3.block A2 rfl).1
    obtain ⟨gb, hgb⟩ : ∃ gb, gb = w2.heap.size + 1 := ⟨_, rfl⟩
    obtain ⟨go, hgo⟩ : ∃ go, go = w2.heap.size := ⟨_, rfl⟩
    rw [← hgb] at hB3 ⊢
    rw [← hgo] at hS3 ⊢
    have hgb' : w.heap.size + 1 ≤ gb := by have := hbk1.lt; omega
    have hAgo : A2 ≠ go := fun e => by
      have := (hO2.block A2 rfl).2
      omega
    have hOb := hO2
    clear hgb hgo hU3 hb2 hO2 hs2 hs1 hbk1 hyb1 hU1 hOb
    go_loopw [24] (fun v wr => ∃ k : Nat, k ≤ m ∧ v = .int .i64 k ∧ OwnI wr (w.heap.size + 1) (some ⟨A2, 0, none⟩) m c2 (ints (fillK Q o k)) ∧ OwnS wr (w.heap.size + 1) (some ⟨go, 0, none⟩) 0 0 [] ∧ Blk wr gb 26 #[.int .i64 m, .slice (some ⟨A2, 0, none⟩) m c2] ∧ Blk wr w.heap.size 26 #[.int .i64 m, .slice (some ad) m c] ∧ Below w.heap.size w wr) (fun v _ => m - (intOf v).toNat)
    case atStart => exact ⟨0, Nat.zero_le _, rfl, by rw [HF0.out]; exact hO3, hS3, hB3, hbk3, hw3⟩
    case round =>
      clear hO3 hS3 hB3 hbk3 hw3
      obtain ⟨k, hk, rfl, hO, hS, hB, hbk, hwr⟩ := hrel
      obtain ⟨wo, rfl⟩ : ∃ wo : World, wo = wr := ⟨_, rfl⟩
      by_cases hkm : k < m
      · have hkv := HO.out.at_ (j := k) (by rw [HOL.out]; exact hkm)
        have hLo := HLw.out.up hwr
        have hcv := hLo.nbs hkm
        have hX' := hO.ri
        obtain ⟨v, hv⟩ : ∃ v, v = nb o k := ⟨_, rfl⟩
        obtain ⟨Qk, hQk⟩ : ∃ Qk, Qk = fillK Q o k := ⟨_, rfl⟩
        have HNx : fillK Q o (k + 1) = joinI Qk (ltr Qk o v) (listOf (ltr Qk o v)).length := by rw [hQk, hv]; rfl
        have hqk : GOk m Qk := by rw [hQk]; exact HK.out k
        obtain ⟨L, hLt⟩ : ∃ L, L = ltr Qk o v := ⟨_, rfl⟩
        have hLl : ∀ i, L.testBit i = true → i < m := by rw [hLt]; exact ltr_low hqk o v
        have hL2 : L < 2 ^ m := by
          refine Nat.lt_pow_two_of_testBit _ fun i hi => ?_
          rw [← Bool.not_eq_true]
          exact fun e => by have := hLl i e; omega
        have hL7 : L < 128 := hqk.n7 hL2
        rw [← hv] at hcv hkv
        rw [← hQk] at hO hX'
        have HLa := Lib.hid (show laterOf m (ints Qk) (ints o) v = L by rw [laterOf_ok (isOrder_nat hqk HO.out HOL.out) hkv, hLt])
        rw [← hLt] at HNx
        have HN := Lib.hid HNx
        have HLI := Lib.hid fun x (hx : x < (listOf L).length) => hLl _ (listOf_nb hx).2
        have HLT := Lib.hid fun k (hk : k ≤ (listOf L).length) a => joinI_lt hqk hL2 hLl k hk a
        have HLE := Lib.hid fun k => (joinI_len Qk L k).trans hqk.len
        clear hv hQk hLt HNx hLl hL2
        have hy := hB.two
        go_wp2_with fail
        refine (implLater_is hX' hLo (by omega) (by omega) hmd HLa.out).mono ?_
        rintro e w4 ⟨rfl, hb4⟩
        replace hO := hO.up hb4
        replace hS := hS.up hb4
        replace hB := hB.up hb4
        replace hbk := hbk.up hb4
        replace hwr := Up.then_ hwr hb4
        clear hy hcv hkv hX' hLo HLa hb4
        go_wp2_with fail
        refine ((implListOf_any L w4 hL7).mono fun _ _ h => h.out).mono ?_
        rintro e w5 ⟨B3, d3, rfl, hO3, hb5⟩
        have hne : ∀ j, (Value.slice B3 (listOf L).length d3).ownBlock = some j → A2 ≠ j := fun j e1 e2 => by
          have h1 := (hO3.block j e1).1
          have h2 := (hO.block A2 rfl).2
          omega
        replace hO3 := hO3.more (base' := w.heap.size + 1) (by have := hbk.lt; omega)
        replace hO := hO.up hb5
        replace hS := hS.up hb5
        replace hB := hB.up hb5
        replace hbk := hbk.up hb5
        replace hwr := Up.then_ hwr hb5
        clear hb5
        have hl7 := listOf_len L
        have HJ0 := Lib.hid (show joinI Qk L 0 = Qk from rfl)
        have HJS := Lib.hid fun j => (show joinI Qk L (j + 1) = (joinI Qk L j).set (nb (listOf L) j) (nb (joinI Qk L j) (nb (listOf L) j) ||| dif L (2 ^ nb (listOf L) j)) from rfl)
        obtain ⟨ll, hll⟩ : ∃ ll, ll = listOf L := ⟨_, rfl⟩
        rw [← hll] at HN HLI HLT hl7 hO3 HJS hne ⊢
        clear hll
        go_wp2_with fail
        go_loopw [35] (fun s wr => ∃ j : Nat, j ≤ ll.length ∧ s = .int .i64 j ∧ OwnI wr (w.heap.size + 1) (some ⟨A2, 0, none⟩) m c2 (ints (joinI Qk L j)) ∧ OwnS wr (w.heap.size + 1) (some ⟨go, 0, none⟩) 0 0 [] ∧ Blk wr gb 26 #[.int .i64 m, .slice (some ⟨A2, 0, none⟩) m c2] ∧ Blk wr w.heap.size 26 #[.int .i64 m, .slice (some ad) m c] ∧ Below w.heap.size w wr ∧ OwnI wr (w.heap.size + 1) B3 ll.length d3 (ints ll)) (fun s _ => ll.length - (intOf s).toNat)
        case atStart => exact ⟨0, Nat.zero_le _, rfl, by rw [HJ0.out]; exact hO, hS, hB, hbk, hwr, hO3⟩
        case round =>
          clear hO hS hB hbk hwr hO3
          obtain ⟨j, hj, rfl, hO, hS, hB, hbk, hwj, hO3⟩ := hrel
          obtain ⟨wj, rfl⟩ : ∃ wj : World, wj = wr := ⟨_, rfl⟩
          by_cases hjt : j < ll.length
          · obtain ⟨a3, rfl, hcv⟩ := hO3.ri.nb_at hjt
            have hvn := HLI.out j hjt
            have hvlt := HLT.out j (by omega) (nb ll j)
            have HS := Lib.hid (HJS.out j)
            have Hlen := Lib.hid (HLE.out j)
            obtain ⟨T, hT⟩ : ∃ T, T = joinI Qk L j := ⟨_, rfl⟩
            rw [← hT] at hO hvlt HS Hlen
            clear hT
            obtain ⟨v, hv⟩ : ∃ v, v = nb ll j := ⟨_, rfl⟩
            rw [← hv] at hcv hvn hvlt HS
            clear hv
            have hcx := hO.nat hvn
            have hfx := hO.frz v
            have hyb := hB.two
            have hv7 : nb T v < 128 := HQ.out.n7 hvlt
            have hsh : IntKind.i64.wrap ((2 : Int) ^ v) = ((p2 v : Nat) : Int) := by rw [IntWalk.i64_left]; exact shl_p2 (by omega)
            have hp7 : p2 v < 128 := Nat.pow_lt_pow_right (n := 7) (by omega) (by omega)
            have hdf := i64_dif7 hL7 hp7
            have hd7 : dif L (p2 v) < 128 := Nat.lt_of_le_of_lt (dif_le _ _) hL7
            have hor := i64_or7 hv7 hd7
            go_wp2_with fail
            go_still_tail 11, (by kernel_rfl)
            change wpList _ _ _ _ _ wj.drew
            have hcx2 : wj.drew.cell? ⟨A2, v, none⟩ = some (.int .i64 (nb T v)) := hcx
            have hfx2 : wj.drew.frozen? ⟨A2, v, none⟩ = false := hfx
            have hyb2 : wj.drew.cell? ⟨gb, 0, none⟩ = some (.int .i64 m) ∧ wj.drew.cell? ⟨gb, 1, none⟩ = some (.slice (some ⟨A2, 0, none⟩) m c2) := hyb
            go_wp2
            go_roundw
            case rel =>
              have hput := hO.putNat v (nb T v ||| dif L (p2 v))
              have hgrw : wj.grownBy (wj.setCell ⟨A2, v, none⟩ (.int .i64 ((nb T v ||| dif L (p2 v) : Nat) : Int))).drew (some A2) := grown_drew (grown_setCell wj ⟨A2, v, none⟩ (.int .i64 ((nb T v ||| dif L (p2 v) : Nat) : Int)))
              have hAb : gb ≠ A2 := fun e => own_blk_ne hO hB (by decide) (by rw [e]; rfl)
              have hAw : w.heap.size ≠ A2 := by omega
              refine ⟨j + 1, by omega, by go_num, by rw [HS.out]; exact hput.drew, ⟨(World.ownsRow.kept hS.top hgrw (.inr (fun e => by injection e with e; exact hAgo e.symm))), (fun _ hq => by cases hq), List.Pairwise.nil⟩, (hB.far (p := ⟨A2, v, none⟩) hAb _).drew, (hbk.far (p := ⟨A2, v, none⟩) hAw _).drew, (hwj.setCell (p := ⟨A2, v, none⟩) (by show w.heap.size ≤ A2; omega) _).drew, hO3.kept hgrw (.inr (fun e => hne _ e rfl))⟩
            case measure => simp [intOf]; omega
          · obtain rfl : j = ll.length := by omega
            go_wp2
            go_roundw
            case rel => exact ⟨k + 1, by omega, by go_num, by rw [HN.out]; exact hO, hS, hB, hbk, hwj⟩
            case measure => simp [intOf]; omega
      · obtain rfl : k = m := by omega
        have hy := hB.two
        have hqm := HK.out k
        obtain ⟨F, hF⟩ : ∃ F, F = fillK Q o k := ⟨_, rfl⟩
        rw [← hF] at hO hqm
        have hGE : (edgesOf (k : Nat) (ints F)) = edges F k := edgesOf_ok hqm
        have HE49 := edges_few (n := k) (Q := F) hn7
        have HELt := Lib.hid fun p (hp : p ∈ edges F k) => edges_lt hp
        have HRes := Lib.hid (show newE Q (edges (fillK Q o k) k) (edges (fillK Q o k) k).length = newE Q (edges F k) (edges F k).length by rw [hF])
        obtain ⟨E, hE⟩ : ∃ E, E = edges F k := ⟨_, rfl⟩
        rw [← hE] at hGE HE49 HELt HRes
        have HEE : ∀ w', RI w' (some ⟨A2, 0, none⟩) k (ints F) → Calls Try.prog 80 #[.agg #[.int .i64 (k : Nat), .slice (some ⟨A2, 0, none⟩) k c2]] w' (GivesS (E.map row2) w') := fun w' h' => by rw [← hGE]; exact implEdgesOf_any _ _ _ _ _ _ h' (by omega)
        clear hF hE hGE hqm
        go_wp2_with fail
        refine (HEE _ hO.ri).mono ?_
        rintro e w4 ⟨AL, cL, qs, hqs, rfl, hoL, hb4⟩
        have hql : qs.length = E.length := by have := congrArg List.length hqs; simpa using this
        have HQs := Lib.hid hqs
        have hS4 := hS.up hb4
        have hbk4 := hbk.up hb4
        have hw4 := Up.then_ hwr hb4
        have htop : ∀ j, (Value.slice (some ⟨go, 0, none⟩) 0 0).ownBlock = some j → (Value.slice AL qs.length cL).ownBlock ≠ some j := fun j e1 e2 => by
          have := (hoL.block j e2).1
          have := (hS.block j e1).2
          omega
        have hLb : w.heap.size + 1 ≤ wo.heap.size := by have := hbk.lt; omega
        clear hO hS hB hbk hwr hb4 hy HEE hqs
        obtain ⟨ml, hml⟩ : ∃ ml, ml = qs.length := ⟨_, rfl⟩
        have HM := Lib.hid hml
        have hm49 : ml ≤ 49 := by omega
        have hmE : ml = E.length := by omega
        have HME := Lib.hid hmE
        rw [← hml] at hoL htop ⊢
        clear hml hql hmE HE49
        have HN0 := Lib.hid (show newE Q E 0 = [] from rfl)
        have HNL := Lib.hid fun k => newE_len Q E k
        go_wp2_with fail
        go_loopw [7, 55] (fun s v wr => ∃ (i : Nat) (A4 : Option Addr) (c4 : Nat) (pk : List RowP), i ≤ ml ∧ v = .int .i64 i ∧ s = .slice A4 (newE Q E i).length c4 ∧ OwnS wr (w.heap.size + 1) A4 (newE Q E i).length c4 pk ∧ OwnS wr wo.heap.size AL ml cL qs ∧ Hid (pk.map Prod.snd = (newE Q E i).map row2 ∧ ∀ q ∈ pk, (∀ j, (rowV q).ownBlock = some j → j < wo.heap.size) ∨ q ∈ qs.take i) ∧ (∀ j, (Value.slice A4 (newE Q E i).length c4).ownBlock = some j → (Value.slice AL ml cL).ownBlock ≠ some j) ∧ Blk wr w.heap.size 26 #[.int .i64 k, .slice (some ad) k c] ∧ Below w.heap.size w wr) (fun _ v _ => ml - (intOf v).toNat)
        case atStart => exact ⟨0, some ⟨go, 0, none⟩, 0, [], Nat.zero_le _, rfl, by rw [HN0.out]; rfl, by rw [HN0.out]; exact hS4, hoL, ⟨by rw [HN0.out]; rfl, fun _ hq => by cases hq⟩, by rw [HN0.out]; exact htop, hbk4, hw4⟩
        case round =>
          clear hS4 hoL htop hbk4 hw4
          obtain ⟨i, A4, c4, pk, hi, rfl, rfl, hO4, hL4, hPk, htop, hbk, hwr⟩ := hrel
          obtain ⟨wi, rfl⟩ : ∃ wi : World, wi = wr := ⟨_, rfl⟩
          by_cases hil : i < ml
          · obtain ⟨gL, r2, d2, rfl, hkn, hc2, h02, h12, hlL, hlr2, hrow2, hqk⟩ := hL4.arcE HQs.out hil
            have hlt := HELt.out E[i] (List.getElem_mem hkn)
            have hnl := HNL.out i
            have HY := Lib.hid (fun h => newE_yes (Q := Q) hkn h)
            have HNo := Lib.hid (fun h => newE_no (Q := Q) hkn h)
            obtain ⟨p, hp⟩ : ∃ p, p = E[i] := ⟨_, rfl⟩
            rw [← hp] at h02 h12 hrow2 hqk hlt HY HNo
            clear hp
            obtain ⟨x, y⟩ := p
            simp only at h02 h12 hrow2 hqk hlt
            have hXi := HXw.out.up hwr
            have hcr := hXi.nbs hlt.1
            have hyg := hbk.two
            have hlg := hbk.lt
            obtain ⟨r, hr⟩ : ∃ r, r = nb Q x := ⟨_, rfl⟩
            rw [← hr] at hcr
            have hr7 : r < 128 := by rw [hr]; exact HQ.out.n7 (HQ.out.lt x)
            obtain ⟨b, hb⟩ : ∃ b, b = r.testBit y := ⟨_, rfl⟩
            have HB := Lib.hid hb.symm
            have HEb := Lib.hid (show edge Q x y = b by rw [hb, hr]; rfl)
            have hab2 : ad.block < wi.heap.size := by have := hwr.size; omega
            clear hr hb
            have yhbk := hbk.two
            have lhbk := hbk.lt
            go_wp2
            have hV0 : Up wi wi.drew := (Up.refl _).drew
            refine wp_region_calm (S := (fun w' => Up wi w' ∧ (∀ b o, b < wi.heap.size → w'.cell? ⟨b, o, none⟩ = wi.cell? ⟨b, o, none⟩) ∧ w'.cell? (⟨r2, 0, none⟩) = some (.int .i64 (x : Nat)) ∧ w'.cell? (⟨r2, 1, none⟩) = some (.int .i64 (y : Nat)) ∧ w'.cell? (ad.add x) = some (.int .i64 (r : Nat)))) (by kernel_rfl) (by kernel_rfl) (by exact ⟨hV0, fun _ _ hb => hV0.cell hb, (hV0.cell (by first | assumption | (rw [block_of_add]; assumption))).trans (by assumption), (hV0.cell (by first | assumption | (rw [block_of_add]; assumption))).trans (by assumption), (hV0.cell (by first | assumption | (rw [block_of_add]; assumption))).trans (by assumption)⟩) ?_
            repeat (first | (refine CalmSeq.cons undef (Calm.off (by rfl)) ?_; (try simp only [Act.put, List.setIfInBounds_toArray, List.set_cons_zero, List.set_cons_succ])) | (refine CalmSeq.cons ?_ (Calm.val (by rfl) ?_) ?_; rotate_left; (intro wC hSw; (try dsimp only at hSw); go_simp; done); (try simp only [Act.put, List.setIfInBounds_toArray, List.set_cons_zero, List.set_cons_succ])) | (refine CalmSeq.cons ?_ (Calm.val (by rfl) ?_) ?_; rotate_left; (intro wC hSw; (try dsimp only at hSw); go_simp; with_reducible rfl); (try simp only [Act.put, List.setIfInBounds_toArray, List.set_cons_zero, List.set_cons_succ])) | ((refine CalmSeq.cons ?_ (Calm.call (f := ?_) (args := ?_) (by rfl) ?_ (fun wC hSw => ?_)) ?_; rotate_left 3; (intro wC; go_simp; (refine ⟨?_, ?_⟩ <;> with_reducible rfl)); (go_at_call 52; (with_reducible refine (has_upG hr7 (by omega) HB.out).mono ?_); rintro e wD ⟨rfl, hbD⟩; apply And.intro; (with_reducible rfl); (have hUD := Up.then_ hSw.1 hbD; exact ⟨hUD, fun _ _ hb => hUD.cell hb, (hUD.cell (by first | assumption | (rw [block_of_add]; assumption))).trans (by assumption), (hUD.cell (by first | assumption | (rw [block_of_add]; assumption))).trans (by assumption), (hUD.cell (by first | assumption | (rw [block_of_add]; assumption))).trans (by assumption)⟩))); (try simp only [Act.put, List.setIfInBounds_toArray, List.set_cons_zero, List.set_cons_succ])))
            intro w6 hS6
            have hU6 : Up wi w6 := hS6.1
            clear hS6 hV0
            replace hbk := hbk.up hU6
            replace yhbk := hbk.two
            replace lhbk := hbk.lt
            have hO5 := hO4.up hU6
            have hL5 := hL4.up hU6
            have hw5 := Up.then_ hwr hU6
            clear hyg hlg
            cases b
            · have HN := Lib.hid (HY.out HEb.out)
              have HMp := Lib.hid (show List.map Prod.snd (pk ++ [(((some (⟨r2, 0, none⟩ : Addr), d2), [(x : Int), (y : Int)]) : RowP)]) = (newE Q E i ++ [(x, y)]).map row2 by rw [List.map_append, hPk.out.1]; simp [row2])
              have hrow5 := (show OwnI w6 (w.heap.size + 1) (some ⟨r2, 0, none⟩) 2 d2 [(x : Int), (y : Int)] from (hrow2.up hU6).more hLb).alloc (.cells #[.slice (some ⟨r2, 0, none⟩) 2 d2] 24)
              have hap := shared_apartE hL5 hPk.out.2 hqk rfl
              have hcell := cell_lit (w := w6) (g := w6.heap.size) (e := 24) (y := .slice (some ⟨r2, 0, none⟩) 2 d2) (by simp)
              have hsz6 := hw5.size
              have hwl := hbk.lt
              have hnl49 : (newE Q E i).length ≤ 49 := by have := HME.out; omega
              clear h02 h12 hc2 hcr HY HNo HEb HB
              go_wp2_with (at_builtin; refine wpList_pushE rfl (.tmp 71) (.tmp 73) rfl ((some ⟨r2, 0, none⟩, d2), [(x : Int), (y : Int)]) rfl (hO5.alloc _) ⟨w6.heap.size, 0, none⟩ rfl hcell hrow5 hap (by omega) (by simp; omega) ?_; intro A7 c7 w7 hO7 hg7 hb7 hF7)
              go_roundw
              case rel =>
                refine ⟨i + 1, A7, c7, pk ++ [((some ⟨r2, 0, none⟩, d2), [(x : Int), (y : Int)])], by omega, by go_num, by rw [HN.out]; simp, by rw [HN.out, List.length_append, List.length_singleton]; exact hO7, (hL5.alloc _).kept_topE (hO5.alloc _).top hg7 htop, ⟨by rw [HN.out]; exact HMp.out, fun q hq => ?_⟩, fun j e => ?_, (hbk.alloc _).below hb7 (by omega), (hw5.alloc hsz6 _).trans (hb7.mono (by omega))⟩
                · rcases List.mem_append.1 hq with hq | hq
                  · exact (hPk.out.2 q hq).imp id fun h => List.take_subset_take_left qs (Nat.le_succ i) h
                  · obtain rfl : q = _ := List.mem_singleton.1 hq
                    refine .inr (List.mem_of_getElem? (i := i) ?_)
                    rw [List.getElem?_take_of_lt (Nat.lt_succ_self i)]
                    exact hqk
                · rw [HN.out, List.length_append, List.length_singleton] at e
                  rcases hF7 j e with e | e
                  · exact htop j e
                  · intro e2
                    have := (hL5.block j e2).2
                    simp at e
                    omega
              case measure => simp [intOf]; omega
            · have HN := Lib.hid (HNo.out HEb.out)
              clear h02 h12 hc2 hcr HY HNo HEb HB
              go_wp2
              go_roundw
              case rel => exact ⟨i + 1, A4, c4, pk, by omega, by go_num, by rw [HN.out], by rw [HN.out]; exact hO5, hL5, ⟨by rw [HN.out]; exact hPk.out.1, fun q hq => (hPk.out.2 q hq).imp id fun h => List.take_subset_take_left qs (Nat.le_succ i) h⟩, by rw [HN.out]; exact htop, hbk, hw5⟩
              case measure => simp [intOf]; omega
          · obtain rfl : i = ml := by omega
            have HP := Lib.hid (show pk.map Prod.snd = (newE Q (edges (fillK Q o k) k) (edges (fillK Q o k) k).length).map row2 by rw [HRes.out, hPk.out.1, HME.out])
            have hpl : pk.length = (newE Q E i).length := hO4.len
            have hlb := hbk.lt
            go_wp2
            go_ret2
            refine ⟨A4, c4, pk, HP.out, ?_, by rw [hpl]; exact hO4.more (by omega), hwr⟩
            rw [hpl]; rfl
end Go.Proofs.Ythncdjcmlpiebaa
