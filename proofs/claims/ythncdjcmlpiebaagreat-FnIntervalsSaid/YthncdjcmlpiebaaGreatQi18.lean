/- Walks of chapter 4: FindHole, the reference's. Walks of chapter 4: FindClaw, the reference's. Walks of chapter 11 and 12: IntervalObstacle, ProperObstacle. Triples and claws: what the searches find, carried over; none in a graph with an order by intervals or an umbrella order. No program in sight. The great law of clique trees, plain, first part: cliques that are joined by what they have most in common make a clique tree. No program in sight. Sorting, plain: the reference's insertion, the library's sort; lists without repeats. No program in sight. Two slices of numbers held one against the other: the reference's way, the library's way. -/
import Derived.Test.YthncdjcmlpiebaaGreatQi01
import Derived.Test.YthncdjcmlpiebaaGreatQi09
import Derived.Test.YthncdjcmlpiebaaGreatQi12
import Derived.Test.YthncdjcmlpiebaaGreatQi13
import Derived.Test.YthncdjcmlpiebaaGreatQi15
import Derived.Test.YthncdjcmlpiebaaGreatQi16
import Derived.Test.YthncdjcmlpiebaaGreatQi17
import Derived.Lib.SlicesCompact
namespace Go.Proofs.YthncdjcmlpiebaaGreat
open Go.RowKit
/-- What a search gives: the list that it found, or some slice. -/
def GivesF (r : Option (List Nat)) (base : Nat) (w : World) (e : Ending) (w' : World) : Prop :=
  (match r with
   | some q => ∃ A c, e = .returned (.tuple #[.slice A q.length c, .bool true]) ∧ OwnI w' base A q.length c (ints q)
   | none => ∃ A m c, e = .returned (.tuple #[.slice A m c, .bool false])) ∧ Below w.heap.size w w'
set_option maxRecDepth 100000 in
theorem srch_zero_yes {may holds : List Nat → Bool} {N : Nat} {l : List Nat} (h : holds l = true) : srch may holds N 0 l = some l := by rw [srch, if_pos h]
set_option maxRecDepth 100000 in
theorem srch_zero_no {may holds : List Nat → Bool} {N : Nat} {l : List Nat} (h : holds l = false) : srch may holds N 0 l = none := by rw [srch, h]; rfl
set_option maxRecDepth 100000 in
theorem specPath_is {N : Int} {A B : Option Addr} {n c m d : Nat} {X l : List Int} {w : World} {r : Bool} (hX : RI w A n X) (hL : RI w B m l) (hn : n ≤ 9223372036854775807) (hm : m ≤ 9223372036854775807) (hr : isPathL N X l = r) :
    Calls Tryz.prog 169 #[.agg #[.int .i64 N, .slice A n c], .slice B m d] w fun e w' => e = .returned (.bool r) ∧ Below w.heap.size w w' := by
  subst hr; exact specIsPath_any N A B n c m d X l w hX hL hn hm
set_option maxRecDepth 100000 in
set_option maxHeartbeats 4000000 in
theorem l4Search_any (n ca m : Nat) (A : Option Addr) (Q : List Nat) (h : GOk n Q) (hm : m ≤ 7) (base : Nat) : ∀ (f : Nat) (l : List Nat) (bd : Addr) (c : Nat) (w : World), l.length + f = m → OwnI w base (some bd) l.length c (ints l) → base ≤ w.heap.size → RI w A n (ints Q) →
    Calls Tryz.prog 150 #[.agg #[.int .i64 n, .slice A n ca], .slice (some bd) l.length c, .int .i64 m, .bool true] w (GivesF (srch (mayS n Q m) (holdsH n Q) n f l) base w) := by
  have hn7 := h.le
  intro f
  induction f with
  | zero =>
    intro l bd c w hf hown hbase hX
    have hlen : l.length = m := by omega
    have heq : ((l.length : Int) == (m : Int)) = true := by rw [beq_iff_eq]; omega
    have hU0 : Up w (w.alloc (.cells #[.int .i64 n, .slice A n ca] 26)) := by go_grown
    have hown' := hown.up hU0
    have hX' := hX.up hU0
    have hbk := Blk.new w 26 #[.int .i64 n, .slice A n ca]
    have hyb := hbk.two
    obtain ⟨b, hb⟩ : ∃ b, b = isHoleL n (ints Q) (ints l) := ⟨_, rfl⟩
    have H1 := Lib.hid hb.symm
    have HR := Lib.hid (show holdsH n Q l = b from hb.symm)
    have Hlen := Lib.hid hlen
    have hlm : l.length ≤ 9223372036854775807 := by omega
    have hnm : n ≤ 9223372036854775807 := by omega
    clear hb hf hlen
    go_enter Tryz.func150, Tryz.ntmps150
    go_wp2_with fail
    refine (specIsHole_is hX' hown'.ri hnm hlm H1.out).mono ?_
    rintro e w1 ⟨rfl, hb1⟩
    have hw1 := Up.then_ hU0 hb1
    have hown1 := hown'.up hb1
    go_wp2
    go_ret2
    cases b
    · rw [srch_zero_no HR.out]
      exact ⟨⟨_, _, _, rfl⟩, hw1⟩
    · rw [srch_zero_yes HR.out]
      exact ⟨⟨some bd, c, rfl, hown1⟩, hw1⟩
  | succ f ih =>
    intro l bd c w hf hown hbase hX
    have hne : ((l.length : Int) == (m : Int)) = false := by rw [beq_eq_false_iff_ne]; omega
    have Ih := Lib.hid ih
    have HS := Lib.hid (srch_step (mayS n Q m) (holdsH n Q) n f l)
    have hb0 := Blk.new w 26 #[.int .i64 n, .slice A n ca]
    have hyb := hb0.two
    have hnm : n ≤ 9223372036854775807 := by omega
    clear ih
    go_enter Tryz.func150, Tryz.ntmps150
    go_wp2_with fail
    go_loopw [10] (fun i wr => ∃ k : Nat, k ≤ n ∧ i = .int .i64 k ∧ Blk wr w.heap.size 26 #[.int .i64 n, .slice A n ca] ∧ Below w.heap.size w wr ∧ Hid (srchK (mayS n Q m) (holdsH n Q) n f l k = none)) (fun i _ => n - (intOf i).toNat)
    case atStart => exact ⟨0, Nat.zero_le _, rfl, hb0, by go_grown, srchK_zero _ _ _ _ _⟩
    case round =>
      clear hb0 hyb
      obtain ⟨k, hk, rfl, hb0, hb, hno⟩ := hrel
      have hyb := hb0.two
      by_cases hkt : k < n
      · have hsz := hb.size
        have hownr := hown.up hb
        have hown0 := OwnI.made (base := wr.heap.size) wr (Nat.le_refl _)
        have hll : l.length + 1 ≤ 1048576 := by omega
        go_wp2_with (at_builtin; first | (refine wpList_cat rfl (.tmp 30) (.tmp 31) rfl rfl hown0 rfl (hownr.ri.alloc _) (by omega) (by simp) ?_; intro A1 c1 w1 hown1 hb1 hg1; have hcell := (Blk.new w1 3 #[.int .i64 (k : Int)]).one; have hsz1 := hb1.size; simp only [World.size_alloc] at hsz1) | (refine wpList_push rfl (.tmp 32) (.tmp 34) rfl (k : Int) rfl (hown1.alloc _) ⟨w1.heap.size, 0, none⟩ rfl hcell (by omega) (by simp; omega) ?_; intro A2 c2 w2 hown2 hb2 hg2; have hU1 : Up wr w1 := ((Below.refl _ wr).alloc (Nat.le_refl _) _).trans hb1; have hU2 : Up wr w2 := (hU1.alloc (Nat.le_of_succ_le hsz1) _).trans hb2; have hyb2 := (hb0.up hU2).two))
        have hx2 : OwnI w2 wr.heap.size A2 (l.length + 1) c2 (ints (l ++ [k])) := hown2.cast rfl (ints_app l k).symm
        have HLen := Lib.hid (show (l ++ [k]).length = l.length + 1 from push_len.symm)
        obtain ⟨gx, rfl⟩ := hx2.form (by omega)
        clear hown0 hown1 hown2 hcell hg1 hg2 hyb hyb2
        replace hb0 := hb0.up hU2
        have hyb := hb0.two
        have hlb := hb0.lt
        have hw2 := Up.then_ hb hU2
        have hXr := hX.up hw2
        have hbs : base ≤ w2.heap.size := by have := hw2.size; omega
        have hbs2 : base ≤ wr.heap.size := by omega
        have hfx : l.length + 1 + f = m := by omega
        have hl1m : l.length + 1 ≤ 9223372036854775807 := by omega
        have hpk : (k : Int) + 1 ≤ 9223372036854775807 := by omega
        obtain ⟨b1, hb1e⟩ : ∃ b, b = isPathL n (ints Q) (ints (l ++ [k])) := ⟨_, rfl⟩
        have E1 := Lib.hid hb1e.symm
        have HM := Lib.hid (nextOk_mayS (n := n) (m := m) (Q := Q) (l := l) (v := k))
        clear hb1e hU1 hsz1
        have goOn : ∀ w4, Up w2 w4 → nextOk (mayS n Q m) l k = true → Calls Tryz.prog 150 #[.agg #[.int .i64 n, .slice A n ca], .slice (some ⟨gx, 0, none⟩) (l.length + 1) c2, .int .i64 m, .bool true] w4 (GivesF (srchAt (mayS n Q m) (holdsH n Q) n f l k) base w4) := by
          intro w4 hU4 hnx
          have hih := Ih.out (l ++ [k]) ⟨gx, 0, none⟩ c2 w4 (by rw [HLen.out]; exact hfx) ((hx2.up hU4).more hbs2 |>.cast HLen.out.symm rfl) (Nat.le_trans hbs hU4.size) (hXr.up hU4)
          rw [HLen.out] at hih
          rw [srchAt_on hnx]
          exact hih
        have HGo := Lib.hid goOn
        clear goOn
        cases b1
        · by_cases hlm : l.length + 1 = m
          · obtain ⟨b2, hb2e⟩ : ∃ b, b = isHoleL n (ints Q) (ints (l ++ [k])) := ⟨_, rfl⟩
            have E2 := Lib.hid hb2e.symm
            clear hb2e
            have heqm : ((l.length : Int) + 1 == (m : Int)) = true := by rw [beq_iff_eq]; omega
            have HNX := Lib.hid (show nextOk (mayS n Q m) l k = b2 by rw [HM.out, mayS, E1.out, E2.out, HLen.out, decide_eq_true hlm]; rfl)
            clear hlm hfx
            refine (specPath_is (hXr.up (by go_grown)) hx2.ri hnm hl1m E1.out).mono ?_
            rintro e w4 ⟨rfl, hb4⟩
            have hU4 : Up w2 w4 := Up.then_ (by go_grown) hb4
            replace hx2 := hx2.up hU4
            replace hb0 := hb0.up hU4
            have yhb0 := hb0.two
            have lhb0 := hb0.lt
            go_wp2_with fail
            refine (specIsHole_is (hXr.up (Up.then_ hU4 (by go_grown))) hx2.ri hnm hl1m E2.out).mono ?_
            rintro e w5 ⟨rfl, hb5⟩
            have hU5 : Up w4 w5 := Up.then_ (by go_grown) hb5
            replace hx2 := hx2.up hU5
            replace hb0 := hb0.up hU5
            replace yhb0 := hb0.two
            replace lhb0 := hb0.lt
            have hU45 := Up.then_ hU4 hU5
            have hw5 := Up.then_ hw2 hU45
            cases b2
            · have HA := Lib.hid (srchAt_off (holds := holdsH n Q) (N := n) (f := f) HNX.out)
              go_wp2
              go_roundw
              case rel => exact ⟨k + 1, by omega, by go_num, hb0, hw5, srchK_none hno.out HA.out⟩
              case measure => simp [intOf]; omega
            · have hih := HGo.out w5 hU45 HNX.out
              go_wp2_with fail
              refine hih.mono ?_
              clear hih
              rintro e w6 ⟨hg6, hb6⟩
              have hw6 := Up.then_ hw5 hb6
              replace hb0 := hb0.up hb6
              rcases hsr : srchAt (mayS n Q m) (holdsH n Q) n f l k with _ | r
              · have HK := Lib.hid (srchK_none hno.out hsr)
                rw [hsr] at hg6
                clear hsr
                obtain ⟨A6, m6, c6, rfl⟩ := hg6
                go_wp2
                go_roundw
                case rel => exact ⟨k + 1, by omega, by go_num, hb0, hw6, HK.out⟩
                case measure => simp [intOf]; omega
              · have HK := Lib.hid (srchK_some hno.out hsr hkt)
                rw [hsr] at hg6
                clear hsr
                obtain ⟨A6, c6, rfl, hown6⟩ := hg6
                go_wp2
                go_ret2
                rw [HK.out]
                exact ⟨⟨A6, c6, rfl, hown6⟩, hw6⟩
          · have heqm : ((l.length : Int) + 1 == (m : Int)) = false := by rw [beq_eq_false_iff_ne]; omega
            have HNX := Lib.hid (show nextOk (mayS n Q m) l k = false by rw [HM.out, mayS, E1.out, HLen.out, decide_eq_false hlm]; rfl)
            clear hlm hfx
            refine (specPath_is (hXr.up (by go_grown)) hx2.ri hnm hl1m E1.out).mono ?_
            rintro e w4 ⟨rfl, hb4⟩
            have hU4 : Up w2 w4 := Up.then_ (by go_grown) hb4
            replace hx2 := hx2.up hU4
            replace hb0 := hb0.up hU4
            have yhb0 := hb0.two
            have lhb0 := hb0.lt
            have hw4 := Up.then_ hw2 hU4
            have HA := Lib.hid (srchAt_off (holds := holdsH n Q) (N := n) (f := f) HNX.out)
            go_wp2
            go_roundw
            case rel => exact ⟨k + 1, by omega, by go_num, hb0, hw4, srchK_none hno.out HA.out⟩
            case measure => simp [intOf]; omega
        · have HNX := Lib.hid (show nextOk (mayS n Q m) l k = true by rw [HM.out, mayS, E1.out]; rfl)
          refine (specPath_is (hXr.up (by go_grown)) hx2.ri hnm hl1m E1.out).mono ?_
          rintro e w4 ⟨rfl, hb4⟩
          have hU4 : Up w2 w4 := Up.then_ (by go_grown) hb4
          replace hx2 := hx2.up hU4
          replace hb0 := hb0.up hU4
          have yhb0 := hb0.two
          have lhb0 := hb0.lt
          have hw4 := Up.then_ hw2 hU4
          have hih := HGo.out w4 hU4 HNX.out
          go_wp2_with fail
          refine hih.mono ?_
          clear hih
          rintro e w6 ⟨hg6, hb6⟩
          have hw6 := Up.then_ hw4 hb6
          replace hb0 := hb0.up hb6
          rcases hsr : srchAt (mayS n Q m) (holdsH n Q) n f l k with _ | r
          · have HK := Lib.hid (srchK_none hno.out hsr)
            rw [hsr] at hg6
            clear hsr
            obtain ⟨A6, m6, c6, rfl⟩ := hg6
            go_wp2
            go_roundw
            case rel => exact ⟨k + 1, by omega, by go_num, hb0, hw6, HK.out⟩
            case measure => simp [intOf]; omega
          · have HK := Lib.hid (srchK_some hno.out hsr hkt)
            rw [hsr] at hg6
            clear hsr
            obtain ⟨A6, c6, rfl, hown6⟩ := hg6
            go_wp2
            go_ret2
            rw [HK.out]
            exact ⟨⟨A6, c6, rfl, hown6⟩, hw6⟩
      · obtain rfl : k = n := by omega
        have hsz := hb.size
        have HN := Lib.hid (HS.out.trans hno.out)
        go_wp2
        go_ret2
        rw [HN.out]
        exact ⟨⟨_, _, _, rfl⟩, hb.alloc hsz (.cells #[] 3)⟩
set_option maxRecDepth 100000 in
set_option maxHeartbeats 4000000 in
theorem specFindHole_any (N : Int) (A : Option Addr) (n c : Nat) (X : List Int) (w : World) (hX : RI w A n X) (hn : n ≤ 9223372036854775807) :
    Calls Tryz.prog 101 #[.agg #[.int .i64 N, .slice A n c]] w (GivesIB (optL (holeOf N X)) (holeOf N X).isSome w) := by
  have hbk := Blk.new w 26 #[.int .i64 N, .slice A n c]
  have hyb := hbk.two
  have hU0 : Up w (w.alloc (.cells #[.int .i64 N, .slice A n c] 26)) := by go_grown
  obtain ⟨W, hW⟩ : ∃ W, W = w.alloc (.cells #[.int .i64 N, .slice A n c] 26) := ⟨_, rfl⟩
  rw [← hW] at hbk hyb hU0
  have hXW := hX.up hU0
  rcases isGraph_cases N X with hg | ⟨k, Q, rfl, rfl, h⟩
  · have H1 := Lib.hid hg
    rw [holeOf_no hg]
    clear hg
    go_enter Tryz.func101, Tryz.ntmps101
    go_wp2_with fail
    rw [← hW]
    clear hW
    go_loopw [4] (fun s wr => s = .int .i64 4 ∧ Up W wr) (fun _ _ => 0)
    case atStart => exact ⟨rfl, Up.refl _⟩
    case round =>
      obtain ⟨rfl, hb⟩ := hrel
      obtain ⟨wo, rfl⟩ : ∃ wo : World, wo = wr := ⟨_, rfl⟩
      have hyo := (hbk.up hb).two
      have hXo := hXW.up hb
      by_cases hN : 4 ≤ N
      · have d1 : decide (4 ≤ N) = true := decide_eq_true hN
        go_wp2_with (go_at_call 16; refine (specIsGraph_is hXo hn H1.out).mono ?_; rintro e w1 ⟨rfl, hb1⟩)
        have hU1 := Up.then_ (Up.then_ hU0 hb) hb1
        have hown0 := OwnI.made (base := w1.heap.size) w1 (Nat.le_refl _)
        have hww := hU1.alloc hU1.size (.cells #[] 3)
        go_ret2
        exact givesIB_none hown0 hU1.size hww
      · have d1 : decide (4 ≤ N) = false := decide_eq_false hN
        have hU1 := Up.then_ hU0 hb
        have hown0 := OwnI.made (base := wo.heap.size) wo (Nat.le_refl _)
        have hww := hU1.alloc hU1.size (.cells #[] 3)
        go_wp2
        go_ret2
        exact givesIB_none hown0 hU1.size hww
  · obtain rfl : n = k := by rw [← hX.1, ints_len, h.len]
    have hn7 := h.le
    have HO := Lib.hid (holeOf_ok h)
    have H1 := Lib.hid h.is
    go_enter Tryz.func101, Tryz.ntmps101
    go_wp2_with fail
    rw [← hW]
    clear hW hyb
    go_loopw [4] (fun s wr => ∃ k : Nat, k ≤ 8 ∧ s = .int .i64 k ∧ Up W wr ∧ 4 ≤ k ∧ Hid ((k ≤ n + 1 ∨ k = 4) ∧ holeK n Q (k - 4) = none)) (fun s _ => 8 - (intOf s).toNat)
    case atStart => exact ⟨4, by omega, rfl, Up.refl _, by omega, .inr rfl, rfl⟩
    case round =>
      obtain ⟨k, hk8, rfl, hb, hk4, hK⟩ := hrel
      obtain ⟨wo, rfl⟩ : ∃ wo : World, wo = wr := ⟨_, rfl⟩
      have hbko := hbk.up hb
      have hyo := hbko.two
      have hXo := hXW.up hb
      by_cases hkn : k ≤ n
      · have hk7 : k ≤ 7 := by omega
        have d1 : decide ((k : Int) ≤ (n : Int)) = true := decide_eq_true (by omega)
        go_wp2_with (go_at_call 16; refine (specIsGraph_is hXo hn H1.out).mono ?_; rintro e w1 ⟨rfl, hb1⟩; have hy1 := (hbko.up hb1).two; have hl1 := (hbko.up hb1).lt)
        have hUW := Up.then_ hU0 (Up.then_ hb hb1)
        have hown0 := OwnI.made (base := w1.heap.size) w1 (Nat.le_refl _)
        have hX1 := (hXo.up hb1).alloc (.cells #[] 3)
        have hcall := l4Search_any n c k A Q h hk7 w1.heap.size k [] ⟨w1.heap.size, 0, none⟩ 0 _ (by simp) hown0 (by simp) hX1
        refine hcall.mono ?_
        clear hcall hyo hy1
        rintro e w2 ⟨hg2, hb2⟩
        have hU2 : Up w1 w2 := Up.then_ (by go_grown) hb2
        have hU02 := Up.then_ hUW hU2
        have hW2 : Up W w2 := Up.then_ hb (Up.then_ hb1 hU2)
        rcases hsr : holeM n Q k with _ | r
        · have HK := Lib.hid (show holeK n Q (k + 1 - 4) = none by
            have := holeK_none hK.out.2 (by rw [show k - 4 + 4 = k by omega]; exact hsr)
            rwa [show k - 4 + 1 = k + 1 - 4 by omega] at this)
          have hg3 := hg2
          rw [show srch (mayS n Q k) (holdsH n Q) n k [] = none from hsr] at hg3
          clear hsr hg2
          obtain ⟨A3, m3, c3, rfl⟩ := hg3
          go_wp2
          go_roundw
          case rel => exact ⟨k + 1, by omega, by go_num, hW2, by omega, .inl (by omega), HK.out⟩
          case measure => simp [intOf]; omega
        · have HK := Lib.hid (show holeOf n (ints Q) = some r by rw [HO.out]; exact holeK_some hK.out.2 (by rw [show k - 4 + 4 = k by omega]; exact hsr) (n - 3) (by omega))
          have hg3 := hg2
          rw [show srch (mayS n Q k) (holdsH n Q) n k [] = some r from hsr] at hg3
          clear hsr hg2
          obtain ⟨A3, c3, rfl, hown3⟩ := hg3
          have hsz := hUW.size
          go_wp2
          go_ret2
          rw [HK.out]
          exact givesIB_some hown3 hsz hU02
      · have HK := Lib.hid (show holeOf n (ints Q) = none by
          rw [HO.out, show n - 3 = k - 4 by have := hK.out.1; omega]
          exact hK.out.2)
        have d1 : decide ((k : Int) ≤ (n : Int)) = false := decide_eq_false (by omega)
        have hU1 := Up.then_ hU0 hb
        have hown0 := OwnI.made (base := wo.heap.size) wo (Nat.le_refl _)
        have hww := hU1.alloc hU1.size (.cells #[] 3)
        go_wp2
        go_ret2
        rw [HK.out]
        exact givesIB_none hown0 hU1.size hww
end Go.Proofs.YthncdjcmlpiebaaGreat
namespace Go.Proofs.YthncdjcmlpiebaaGreat
open Go.RowKit
end Go.Proofs.YthncdjcmlpiebaaGreat
namespace Go.Proofs.YthncdjcmlpiebaaGreat
open Go.RowKit
def ivObsOf (N : Int) (X : List Int) : Option (List Nat) := (holeOf N X).or (tripOf N X)
set_option maxRecDepth 100000 in
theorem or_none_ {a b : Option (List Nat)} (h : a = none) : a.or b = b := by rw [h]; rfl
set_option maxRecDepth 100000 in
theorem or_some_ {a b : Option (List Nat)} {r : List Nat} (h : a = some r) : a.or b = some r := by rw [h]; rfl
set_option maxRecDepth 100000 in
theorem GivesIB.out_none {w : World} {e : Ending} {w' : World} {r : Option (List Nat)} (hr : r = none) (h : GivesIB (optL r) r.isSome w e w') : ∃ A m c, e = .returned (.tuple #[.slice A m c, .bool false]) ∧ Below w.heap.size w w' := by
  subst hr
  obtain ⟨A, c, rfl, _, hb⟩ := h
  exact ⟨A, _, c, rfl, hb⟩
set_option maxRecDepth 100000 in
theorem GivesIB.out_some {w : World} {e : Ending} {w' : World} {r : Option (List Nat)} {q : List Nat} (hr : r = some q) (h : GivesIB (optL r) r.isSome w e w') : ∃ A c, e = .returned (.tuple #[.slice A q.length c, .bool true]) ∧ OwnI w' w.heap.size A q.length c (ints q) ∧ Below w.heap.size w w' := by
  subst hr
  obtain ⟨A, c, rfl, hown, hb⟩ := h
  have e : (optL (some q)).length = q.length := ints_len q
  rw [e] at hown ⊢
  exact ⟨A, c, rfl, hown, hb⟩
set_option maxRecDepth 100000 in
set_option maxHeartbeats 1000000 in
theorem implIntervalObstacle_any (N : Int) (A : Option Addr) (n c : Nat) (X : List Int) (w : World) (hX : RI w A n X) (hn : n ≤ 9223372036854775807) :
    Calls Tryz.prog 38 #[.agg #[.int .i64 N, .slice A n c]] w (GivesIB (optL (ivObsOf N X)) (ivObsOf N X).isSome w) := by
  rcases hr : holeOf N X with _ | q
  · have HR := Lib.hid (show ivObsOf N X = tripOf N X from or_none_ hr)
    have H1 := Lib.hid hr
    clear hr
    go_enter Tryz.func38, Tryz.ntmps38
    have hbk := Blk.new w 26 #[.int .i64 N, .slice A n c]
    go_wp2_with fail
    refine (implFindHole_any N A n c X _ (hX.up (by go_grown)) hn).mono ?_
    intro e w1 h1
    obtain ⟨A1, m1, c1, rfl, hb1⟩ := h1.out_none H1.out
    have hU1 : Up w w1 := Up.then_ (by go_grown) hb1
    replace hbk := hbk.up hb1
    have hyb := hbk.two
    have hlb := hbk.lt
    go_wp2_with fail
    refine (implFindTriple_any N A n c X _ (hX.up (Up.then_ hU1 (by go_grown))) hn).mono ?_
    rintro e w2 ⟨A2, c2, rfl, hown, hb2⟩
    have hU2 : Up w1 w2 := Up.then_ (by go_grown) hb2
    have hU12 := Up.then_ hU1 hU2
    have hbs : w.heap.size ≤ w1.heap.size := hU1.size
    go_wp2
    go_ret2
    rw [HR.out]
    exact ⟨A2, c2, rfl, hown.more (by simpa using hbs), hU12⟩
  · have HR := Lib.hid (show ivObsOf N X = some q from or_some_ hr)
    have H1 := Lib.hid hr
    clear hr
    go_enter Tryz.func38, Tryz.ntmps38
    go_wp2_with fail
    refine (implFindHole_any N A n c X _ (hX.up (by go_grown)) hn).mono ?_
    intro e w1 h1
    obtain ⟨A1, c1, rfl, hown, hb1⟩ := h1.out_some H1.out
    have hU1 : Up w w1 := Up.then_ (by go_grown) hb1
    go_wp2
    go_ret2
    rw [HR.out]
    exact givesIB_some hown (by simp) hU1
set_option maxRecDepth 100000 in
set_option maxHeartbeats 1000000 in
theorem specIntervalObstacle_any (N : Int) (A : Option Addr) (n c : Nat) (X : List Int) (w : World) (hX : RI w A n X) (hn : n ≤ 9223372036854775807) :
    Calls Tryz.prog 39 #[.agg #[.int .i64 N, .slice A n c]] w (GivesIB (optL (ivObsOf N X)) (ivObsOf N X).isSome w) := by
  rcases hr : holeOf N X with _ | q
  · have HR := Lib.hid (show ivObsOf N X = tripOf N X from or_none_ hr)
    have H1 := Lib.hid hr
    clear hr
    go_enter Tryz.func39, Tryz.ntmps39
    have hbk := Blk.new w 26 #[.int .i64 N, .slice A n c]
    go_wp2_with fail
    refine (specFindHole_any N A n c X _ (hX.up (by go_grown)) hn).mono ?_
    intro e w1 h1
    obtain ⟨A1, m1, c1, rfl, hb1⟩ := h1.out_none H1.out
    have hU1 : Up w w1 := Up.then_ (by go_grown) hb1
    replace hbk := hbk.up hb1
    have hyb := hbk.two
    have hlb := hbk.lt
    go_wp2_with fail
    refine (specFindTriple_any N A n c X _ (hX.up (Up.then_ hU1 (by go_grown))) hn).mono ?_
    rintro e w2 ⟨A2, c2, rfl, hown, hb2⟩
    have hU2 : Up w1 w2 := Up.then_ (by go_grown) hb2
    have hU12 := Up.then_ hU1 hU2
    have hbs : w.heap.size ≤ w1.heap.size := hU1.size
    go_wp2
    go_ret2
    rw [HR.out]
    exact ⟨A2, c2, rfl, hown.more (by simpa using hbs), hU12⟩
  · have HR := Lib.hid (show ivObsOf N X = some q from or_some_ hr)
    have H1 := Lib.hid hr
    clear hr
    go_enter Tryz.func39, Tryz.ntmps39
    go_wp2_with fail
    refine (specFindHole_any N A n c X _ (hX.up (by go_grown)) hn).mono ?_
    intro e w1 h1
    obtain ⟨A1, c1, rfl, hown, hb1⟩ := h1.out_some H1.out
    have hU1 : Up w w1 := Up.then_ (by go_grown) hb1
    go_wp2
    go_ret2
    rw [HR.out]
    exact givesIB_some hown (by simp) hU1
end Go.Proofs.YthncdjcmlpiebaaGreat
namespace Go.Proofs.YthncdjcmlpiebaaGreat
theorem grow_next {Q : List Nat} {S x k i : Nat} : (grow Q S x (k + 1)).testBit i = true ↔ ((grow Q S x k).testBit i = true ∨ ∃ v, v < 7 ∧ (grow Q S x k).testBit v = true ∧ edge Q v i = true) ∧ S.testBit i = true := by
  rw [grow, testBit_step, Bool.and_eq_true, Bool.or_eq_true, testBit_nbrs]
  rfl
theorem grow_zero {Q : List Nat} {S v i : Nat} : (grow Q S (2 ^ v) 0).testBit i = true ↔ v = i := by
  rw [grow, Nat.testBit_two_pow, decide_eq_true_eq]
theorem grow_front {Q : List Nat} {S b v : Nat} (hb7 : b < 7) (hv : S.testBit v = true) (e : edge Q b v = true) : ∀ k i, (grow Q S (2 ^ v) k).testBit i = true → (grow Q S (2 ^ b) (k + 1)).testBit i = true
  | 0, i, hi => by
    obtain rfl := grow_zero.1 hi
    exact grow_next.2 ⟨.inr ⟨b, hb7, grow_zero.2 rfl, e⟩, hv⟩
  | k + 1, i, hi => by
    obtain ⟨h1, h2⟩ := grow_next.1 hi
    refine grow_next.2 ⟨?_, h2⟩
    rcases h1 with h1 | ⟨u, hu, h1, h3⟩
    · exact .inl (grow_front hb7 hv e k i h1)
    · exact .inr ⟨u, hu, grow_front hb7 hv e k u h1, h3⟩
theorem grow_swap {n : Nat} {Q : List Nat} (h : GOk n Q) {S : Nat} (hS : S < 2 ^ n) : ∀ k a b, S.testBit b = true → (grow Q S (2 ^ b) k).testBit a = true → (grow Q S (2 ^ a) k).testBit b = true
  | 0, a, b, _, hi => by
    obtain rfl := grow_zero.1 hi
    exact hi
  | k + 1, a, b, hb, hi => by
    obtain ⟨h1, h2⟩ := grow_next.1 hi
    rcases h1 with h1 | ⟨v, hv, h1, h3⟩
    · exact grow_next.2 ⟨.inl (grow_swap h hS k a b hb h1), hb⟩
    · have hSv := grow_sub (Q := Q) (bit_sub hb) k v h1
      refine grow_front (by have := bit_lt hS h2; have := h.le; omega) hSv (by rw [h.edge_comm]; exact h3) k b (grow_swap h hS k v b hb h1)
theorem away_bit {n c : Nat} (Q : List Nat) (i : Nat) : (awayS Q n c).testBit i = (decide (i < n) && !edge Q c i && !decide (c = i)) := by
  rw [awayS, testBit_dif, testBit_dif, Nat.testBit_two_pow_sub_one, Nat.testBit_two_pow]
  rfl
/-- From a to b away from c. -/
def Av (Q : List Nat) (n a b c : Nat) : Prop := (awayS Q n c).testBit a = true ∧ (awayS Q n c).testBit b = true ∧ ∃ k, (grow Q (awayS Q n c) (2 ^ b) k).testBit a = true
theorem Av.swap {n a b c : Nat} {Q : List Nat} (h : GOk n Q) (hA : Av Q n a b c) : Av Q n b a c := by
  obtain ⟨h1, h2, k, h3⟩ := hA
  exact ⟨h2, h1, k, grow_swap h (awayS_lt Q n c) k a b h2 h3⟩
theorem av_iff {n a b c : Nat} {Q : List Nat} (h : GOk n Q) (ha : a < n) (hb : b < n) (hc : c < n) : (avoidOf n (ints Q) a b c).isSome = true ↔ Av Q n a b c := by
  rw [avoidOf_ok h ha hb hc, wayOf]
  constructor
  · intro hs
    split at hs
    · rename_i hk; exact ⟨hk.1, hk.2.1, _, hk.2.2⟩
    · cases hs
  · rintro ⟨h1, h2, k, h3⟩
    rw [if_pos ⟨h1, h2, grow_all h.le (awayS_lt Q n c) (bit_sub h2) (Nat.ne_of_gt (Nat.two_pow_pos _)) h3⟩]
    rfl
def Trip (Q : List Nat) (n a b c : Nat) : Prop := (a ≠ b ∧ b ≠ c ∧ c ≠ a) ∧ Av Q n a b c ∧ Av Q n b c a ∧ Av Q n c a b
theorem isTrip_iff {n a b c : Nat} {Q : List Nat} (h : GOk n Q) (ha : a < n) (hb : b < n) (hc : c < n) : isTrip n (ints Q) a b c = true ↔ Trip Q n a b c := by
  rw [isTrip, Trip, ← av_iff h ha hb hc, ← av_iff h hb hc ha, ← av_iff h hc ha hb]
  simp only [Bool.and_eq_true, Bool.not_eq_true', beq_eq_false_iff_ne, ne_eq, Int.natCast_inj]
  constructor
  · rintro ⟨⟨⟨⟨⟨h1, h2⟩, h3⟩, h4⟩, h5⟩, h6⟩; exact ⟨⟨h1, h2, h3⟩, h4, h5, h6⟩
  · rintro ⟨⟨h1, h2, h3⟩, h4, h5, h6⟩; exact ⟨⟨⟨⟨⟨h1, h2⟩, h3⟩, h4⟩, h5⟩, h6⟩
/-- The first turned behind. -/
theorem isTrip_turn (N : Int) (X : List Int) (a b c : Int) : isTrip N X b c a = isTrip N X a b c := by
  rw [isTrip, isTrip]
  generalize (avoidOf N X a b c).isSome = x
  generalize (avoidOf N X b c a).isSome = y
  generalize (avoidOf N X c a b).isSome = z
  generalize (a == b) = p
  generalize (b == c) = q
  generalize (c == a) = r
  cases x <;> cases y <;> cases z <;> cases p <;> cases q <;> cases r <;> rfl
theorem Trip.turn {n a b c : Nat} {Q : List Nat} (hT : Trip Q n a b c) : Trip Q n b c a := ⟨⟨hT.1.2.1, hT.1.2.2, hT.1.1⟩, hT.2.2.1, hT.2.2.2, hT.2.1⟩
theorem Trip.swap {n a b c : Nat} {Q : List Nat} (h : GOk n Q) (hT : Trip Q n a b c) : Trip Q n b a c := ⟨⟨Ne.symm hT.1.1, Ne.symm hT.1.2.2, Ne.symm hT.1.2.1⟩, hT.2.1.swap h, hT.2.2.2.swap h, hT.2.2.1.swap h⟩
theorem Trip.sorted {n a b c : Nat} {Q : List Nat} (h : GOk n Q) (ha : a < n) (hb : b < n) (hc : c < n) (hT : Trip Q n a b c) : ∃ x y z, x < y ∧ y < z ∧ z < n ∧ Trip Q n x y z := by
  obtain ⟨h1, h2, h3⟩ := hT.1
  rcases Nat.lt_or_gt_of_ne h1 with e1 | e1 <;> rcases Nat.lt_or_gt_of_ne h2 with e2 | e2 <;> rcases Nat.lt_or_gt_of_ne h3 with e3 | e3
  · omega
  · exact ⟨a, b, c, e1, e2, hc, hT⟩
  · exact ⟨c, a, b, e3, e1, hb, hT.turn.turn⟩
  · exact ⟨a, c, b, e3, e2, hb, (hT.swap h).turn⟩
  · exact ⟨b, c, a, e2, e3, ha, hT.turn⟩
  · exact ⟨b, a, c, e1, e3, hc, hT.swap h⟩
  · exact ⟨c, b, a, e2, e1, ha, (hT.turn).swap h⟩
  · omega
theorem ftK_no {P : Nat → Option (List Nat)} : ∀ {k}, ftK P k = none ↔ ∀ j, j < k → P j = none
  | 0 => by simp [ftK]
  | k + 1 => by
    rw [ftK, Option.or_eq_none_iff, ftK_no]
    constructor
    · rintro ⟨h1, h2⟩ j hj
      rcases Nat.lt_succ_iff_lt_or_eq.1 hj with hj | rfl
      · exact h1 j hj
      · exact h2
    · exact fun h => ⟨fun j hj => h j (by omega), h k (by omega)⟩
theorem ftK_at {P : Nat → Option (List Nat)} {r : List Nat} : ∀ {k}, ftK P k = some r → ∃ j, j < k ∧ P j = some r
  | 0, h => by cases h
  | k + 1, h => by
    rw [ftK, Option.or_eq_some_iff] at h
    rcases h with h | ⟨_, h⟩
    · obtain ⟨j, hj, e⟩ := ftK_at h
      exact ⟨j, by omega, e⟩
    · exact ⟨k, by omega, h⟩
theorem tripOf_none {n : Nat} {Q : List Nat} (h : GOk n Q) (ht : tripOf n (ints Q) = none) {a b c : Nat} (ha : a < n) (hb : b < n) (hc : c < n) : ¬ Trip Q n a b c := by
  intro hT
  obtain ⟨x, y, z, h1, h2, h3, hT⟩ := hT.sorted h ha hb hc
  rw [tripOf_ok h, ftK_no] at ht
  have e1 := ht x (by omega)
  rw [trA, ftK_no] at e1
  have e2 := e1 y (by omega)
  rw [trB_at h1, ftK_no] at e2
  have e3 := e2 z (by omega)
  rw [trC_yes h2 ((isTrip_iff h (by omega) (by omega) h3).2 hT)] at e3
  cases e3
theorem tripOf_some {n : Nat} {Q r : List Nat} (h : GOk n Q) (ht : tripOf n (ints Q) = some r) : ∃ a b c : Nat, r = [a, b, c] ∧ a < n ∧ b < n ∧ c < n ∧ isTrip n (ints Q) a b c = true := by
  rw [tripOf_ok h] at ht
  obtain ⟨a, ha, e1⟩ := ftK_at ht
  obtain ⟨b, hb, e2⟩ := ftK_at e1
  rw [trB] at e2
  split at e2
  · obtain ⟨c, hc, e3⟩ := ftK_at e2
    rw [trC] at e3
    split at e3
    · rename_i hk
      injection e3 with e3
      exact ⟨a, b, c, e3.symm, ha, hb, hc, hk.2⟩
    · cases e3
  · cases e2
section
variable {n : Nat} {Q o : List Nat}
theorem carry_grow (h : GOk n Q) (ho : natVerts n o) (hl : o.length = n) {b c : Nat} (hc : c < n) (hb : (awayS (posG Q o n) n c).testBit b = true) :
    ∀ k i, (grow (posG Q o n) (awayS (posG Q o n) n c) (2 ^ b) k).testBit i = true → (grow Q (awayS Q n (nb o c)) (2 ^ nb o b) k).testBit (nb o i) = true := by
  have aw : ∀ i, (awayS (posG Q o n) n c).testBit i = true → i < n ∧ (awayS Q n (nb o c)).testBit (nb o i) = true := fun i hi => by
    rw [away_bit, Bool.and_eq_true, Bool.and_eq_true, decide_eq_true_eq, Bool.not_eq_true', Bool.not_eq_true', decide_eq_false_iff_not] at hi
    obtain ⟨⟨h1, h2⟩, h3⟩ := hi
    rw [posG_edge h hc h1] at h2
    refine ⟨h1, ?_⟩
    rw [away_bit, decide_eq_true (ho.at_ (by omega)), h2, decide_eq_false (fun e => h3 (ho.inj (by omega) (by omega) e))]
    rfl
  intro k
  induction k with
  | zero =>
    intro i hi
    obtain rfl := grow_zero.1 hi
    exact grow_zero.2 rfl
  | succ k ih =>
    intro i hi
    obtain ⟨h1, h2⟩ := grow_next.1 hi
    refine grow_next.2 ⟨?_, (aw i h2).2⟩
    rcases h1 with h1 | ⟨v, _, h1, h3⟩
    · exact .inl (ih i h1)
    · have hv := (aw v (grow_sub (Q := posG Q o n) (bit_sub hb) k v h1)).1
      rw [posG_edge h hv (aw i h2).1] at h3
      exact .inr ⟨nb o v, by have := ho.at_ (j := v) (by omega); have := h.le; omega, ih v h1, h3⟩
theorem carry_av (h : GOk n Q) (ho : natVerts n o) (hl : o.length = n) {a b c : Nat} (hc : c < n) (hA : Av (posG Q o n) n a b c) : Av Q n (nb o a) (nb o b) (nb o c) := by
  obtain ⟨h1, h2, k, h3⟩ := hA
  have g2 := carry_grow h ho hl hc h2 k a h3
  have e1 := carry_grow h ho hl hc h1 0 a (grow_zero.2 rfl)
  have aw : ∀ i, (awayS (posG Q o n) n c).testBit i = true → (awayS Q n (nb o c)).testBit (nb o i) = true := fun i hi => by
    rw [away_bit, Bool.and_eq_true, Bool.and_eq_true, decide_eq_true_eq, Bool.not_eq_true', Bool.not_eq_true', decide_eq_false_iff_not] at hi
    obtain ⟨⟨k1, k2⟩, k3⟩ := hi
    rw [posG_edge h hc k1] at k2
    rw [away_bit, decide_eq_true (ho.at_ (by omega)), k2, decide_eq_false (fun e => k3 (ho.inj (by omega) (by omega) e))]
    rfl
  clear e1
  exact ⟨aw a h1, aw b h2, k, g2⟩
theorem carry_trip3 (h : GOk n Q) (ho : natVerts n o) (hl : o.length = n) (ht : trip3 (posG Q o n) n = true) : ∃ a b c, a < n ∧ b < n ∧ c < n ∧ Trip Q n a b c := by
  simp only [trip3, List.any_eq_true, List.mem_range, Bool.and_eq_true, decide_eq_true_eq, atP3] at ht
  obtain ⟨a, ha, b, hb, hab, c, hc, hbc, ⟨⟨⟨a1, a2⟩, a3⟩, ⟨b1, b2⟩, b3⟩, ⟨c1, c2⟩, c3⟩ := ht
  have ne : ∀ i j, i < n → j < n → i ≠ j → nb o i ≠ nb o j := fun i j hi hj hne e => hne (ho.inj (by omega) (by omega) e)
  exact ⟨nb o a, nb o b, nb o c, ho.at_ (by omega), ho.at_ (by omega), ho.at_ (by omega), ⟨ne a b ha hb (by omega), ne b c hb hc (by omega), ne c a hc ha (by omega)⟩, carry_av h ho hl hc ⟨a1, a2, n, a3⟩, carry_av h ho hl ha ⟨b1, b2, n, b3⟩, carry_av h ho hl hb ⟨c1, c2, n, c3⟩⟩
theorem claw_found (h : GOk n Q) {c x y z : Nat} (hv : natVerts n [c, x, y, z]) (e1 : edge Q c x = true) (e2 : edge Q c y = true) (e3 : edge Q c z = true) (e4 : edge Q x y = false) (e5 : edge Q x z = false) (e6 : edge Q y z = false) : (clawOf n (ints Q)).isSome = true := by
  rw [clawOf_ok h]
  refine Option.isSome_iff_ne_none.2 (srch_found (f := 4) (l := []) (t := [c, x, y, z]) rfl (by simpa using hv.2) hv.1 (fun k _ _ => rfl) ?_)
  rw [List.nil_append, holdsC, isClawL, isJoined_ok (isVerts_nat h hv), ints_len]
  have : joinedP Q [c, x, y, z] jClaw = true := joinedP_iff.2 fun k hk i hi => by
    have hk4 : k < 4 := hk
    have : (k = 1 ∧ i = 0) ∨ (k = 2 ∧ i = 0) ∨ (k = 2 ∧ i = 1) ∨ (k = 3 ∧ i = 0) ∨ (k = 3 ∧ i = 1) ∨ (k = 3 ∧ i = 2) := by omega
    rcases this with ⟨rfl, rfl⟩ | ⟨rfl, rfl⟩ | ⟨rfl, rfl⟩ | ⟨rfl, rfl⟩ | ⟨rfl, rfl⟩ | ⟨rfl, rfl⟩
    · exact e1
    · exact e2
    · exact e4
    · exact e3
    · exact e5
    · exact e6
  rw [this]; rfl
theorem carry_claw (h : GOk n Q) (ho : natVerts n o) (hl : o.length = n) (ht : clawS (posG Q o n) n = true) : (clawOf n (ints Q)).isSome = true := by
  simp only [clawS, List.any_eq_true, List.mem_range, Bool.and_eq_true, Bool.not_eq_true'] at ht
  obtain ⟨c, hc, x, hx, e1, y, hy, ⟨e2, e4⟩, z, hz, ⟨e3, e5⟩, e6⟩ := ht
  have ed : ∀ i j, i < n → j < n → ∀ b, (nb (posG Q o n) i).testBit j = b → edge Q (nb o i) (nb o j) = b := fun i j hi hj b e => by
    rw [← posG_edge h hi hj]; exact e
  have ne : ∀ i j, i < n → j < n → i ≠ j → nb o i ≠ nb o j := fun i j hi hj hne e => hne (ho.inj (by omega) (by omega) e)
  have irr : ∀ j, (nb (posG Q o n) c).testBit j = true → c ≠ j := fun j e k => by
    subst k
    rw [posG_bit h, edge_irr h, Bool.and_false] at e
    cases e
  have n1 := ne c x hc hx (irr x e1)
  have n2 := ne c y hc (by omega) (irr y e2)
  have n3 := ne c z hc (by omega) (irr z e3)
  have n4 := ne x y hx (by omega) (by omega)
  have n5 := ne x z hx (by omega) (by omega)
  have n6 := ne y z (by omega) (by omega) (by omega)
  refine claw_found h (c := nb o c) (x := nb o x) (y := nb o y) (z := nb o z) ⟨fun v hv => ?_, ?_⟩ (ed c x hc hx _ e1) (ed c y hc (by omega) _ e2) (ed c z hc (by omega) _ e3) (ed x y hx (by omega) _ e4) (ed x z hx (by omega) _ e5) (ed y z (by omega) (by omega) _ e6)
  · simp only [List.mem_cons, List.not_mem_nil, or_false] at hv
    rcases hv with rfl | rfl | rfl | rfl <;> exact ho.at_ (by omega)
  · simp only [List.nodup_cons, List.mem_cons, List.not_mem_nil, or_false, not_or, not_false_iff, List.nodup_nil, and_true]
    exact ⟨⟨n1, n2, n3⟩, ⟨n4, n5⟩, n6⟩
theorem IV.side {a b : Nat → Int} (hi : IV n Q a b) {c y : Nat} (hc : c < n) (hy : (awayS Q n c).testBit y = true) : ∀ k x, (grow Q (awayS Q n c) (2 ^ y) k).testBit x = true → (b x < a c ↔ b y < a c) := by
  have aw : ∀ i, (awayS Q n c).testBit i = true → i < n ∧ (b i < a c ∨ b c < a i) := fun i h => by
    rw [away_bit, Bool.and_eq_true, Bool.and_eq_true, decide_eq_true_eq, Bool.not_eq_true', Bool.not_eq_true', decide_eq_false_iff_not] at h
    obtain ⟨⟨h1, h2⟩, h3⟩ := h
    refine ⟨h1, Classical.byContradiction fun hn => ?_⟩
    have := (hi.adj c i hc h1 h3).2 ⟨by omega, by omega⟩
    rw [h2] at this; cases this
  have hcc := hi.le c hc
  intro k
  induction k with
  | zero =>
    intro x hx
    obtain rfl := grow_zero.1 hx
    exact Iff.rfl
  | succ k ih =>
    intro x hx
    obtain ⟨h1, h2⟩ := grow_next.1 hx
    rcases h1 with h1 | ⟨v, _, h1, h3⟩
    · exact ih x h1
    · have hv := aw v (grow_sub (Q := Q) (bit_sub hy) k v h1)
      have hx' := aw x h2
      have i1 := ih v h1
      by_cases e : v = x
      · subst e; exact i1
      · have := (hi.adj v x hv.1 hx'.1 e).1 h3
        have := hi.le v hv.1
        have := hi.le x hx'.1
        rw [← i1]
        omega
theorem IV.apart {a b : Nat → Int} (hi : IV n Q a b) {c i : Nat} (hc : c < n) (h : (awayS Q n c).testBit i = true) : i < n ∧ (b i < a c ∨ b c < a i) := by
  rw [away_bit, Bool.and_eq_true, Bool.and_eq_true, decide_eq_true_eq, Bool.not_eq_true', Bool.not_eq_true', decide_eq_false_iff_not] at h
  obtain ⟨⟨h1, h2⟩, h3⟩ := h
  refine ⟨h1, Classical.byContradiction fun hn => ?_⟩
  have := (hi.adj c i hc h1 h3).2 ⟨by omega, by omega⟩
  rw [h2] at this; cases this
theorem IV.no_trip {a b : Nat → Int} (hi : IV n Q a b) {u v w : Nat} (hu : u < n) (hv : v < n) (hw : w < n) (hT : Trip Q n u v w) : False := by
  obtain ⟨_, ⟨a1, a2, k1, a3⟩, ⟨b1, b2, k2, b3⟩, c1, c2, k3, c3⟩ := hT
  have s1 := hi.side hw a2 k1 u a3
  have s2 := hi.side hu b2 k2 v b3
  have s3 := hi.side hv c2 k3 w c3
  have d1 := (hi.apart hw a1).2
  have d2 := (hi.apart hw a2).2
  have d3 := (hi.apart hu b1).2
  have l1 := hi.le u hu
  have l2 := hi.le v hv
  have l3 := hi.le w hw
  clear hi a1 a2 a3 b1 b2 b3 c1 c2 c3
  omega
theorem IV.trip_none {a b : Nat → Int} (hi : IV n Q a b) (h : GOk n Q) : tripOf n (ints Q) = none := by
  rcases ht : tripOf n (ints Q) with _ | r
  · rfl
  · obtain ⟨u, v, w, _, hu, hv, hw, e⟩ := tripOf_some h ht
    exact (hi.no_trip hu hv hw ((isTrip_iff h hu hv hw).1 e)).elim
theorem IV.hole_none {a b : Nat → Int} (hi : IV n Q a b) (h : GOk n Q) : holeOf n (ints Q) = none := by
  rcases ht : holeOf n (ints Q) with _ | r
  · rfl
  · exact (hi.no_hole h (holeOf_some h ht)).elim
theorem small_chk (h : GOk n Q) (h6 : n ≤ 6) (hc : (elimOf n (ints Q)).isSome = true) : ∃ o, natVerts n o ∧ o.length = n ∧ chk2 (posG Q o n) n = true := by
  obtain ⟨t, ht⟩ := Option.isSome_iff_exists.1 hc
  obtain ⟨_, _, h1, h2, _⟩ := chordal_facts ht
  rw [isElim_ok h1 h] at h2
  rw [elimOf_ok h] at ht
  obtain ⟨t', e, hE⟩ := elimR_elim (full_lt h.le) ht
  rw [List.nil_append] at e
  subst e
  obtain ⟨ho, hl⟩ := hE.order
  refine ⟨t.reverse, ⟨fun v hv => ho.1 v (List.mem_reverse.1 hv), List.pairwise_reverse.2 (ho.2.imp fun h => Ne.symm h)⟩, by rw [List.length_reverse, hl], ?_⟩
  exact allX_pos h (elim_perf h ho h2) (by rw [List.length_reverse, hl]) n 0 (by omega) (chk_all n h6)
theorem small_cases (h : GOk n Q) (h6 : n ≤ 6) (hc : (elimOf n (ints Q)).isSome = true) (ht : tripOf n (ints Q) = none) : (∃ q, natVerts n q ∧ q.length = n ∧ OrdI Q q) ∧ (clawOf n (ints Q) = none → ∃ q, natVerts n q ∧ q.length = n ∧ OrdI Q q ∧ OrdU Q q) := by
  obtain ⟨o, ho, hl, hk⟩ := small_chk h h6 hc
  have hP := posG_ok (o := o) h h.pos h.le
  rw [chk2, Bool.or_eq_true] at hk
  rcases hk with hk | hk
  · rcases Bool.eq_false_or_eq_true (clawS (posG Q o n) n) with e | e
    · rw [e, cond_true] at hk
      obtain ⟨q, q1, q2, q3⟩ := ivS_ord hP n [] 0 0 (Plc.nil _ _) hk
      refine ⟨⟨q.map (nb o), carry_verts ho hl q2, by rw [List.length_map, q1]; simp, carry_ordI h q2 q3⟩, fun hcl => ?_⟩
      have := carry_claw h ho hl e
      rw [hcl] at this; cases this
    · rw [e, cond_false] at hk
      obtain ⟨q, q1, q2, q3, q4⟩ := umS_ord hP n [] 0 0 (Plc.nil _ _) (fun i j k _ _ hk => absurd hk (by simp)) hk
      have r1 := carry_verts ho hl q2
      have r2 : (q.map (nb o)).length = n := by rw [List.length_map, q1]; simp
      have r3 := carry_ordI h q2 q3
      exact ⟨⟨_, r1, r2, r3⟩, fun _ => ⟨_, r1, r2, r3, carry_ordU h q2 q4⟩⟩
  · obtain ⟨a, b, c, ha, hb, hc', hT⟩ := carry_trip3 h ho hl hk
    exact absurd hT (tripOf_none h ht ha hb hc')
end
end Go.Proofs.YthncdjcmlpiebaaGreat
namespace Go.Proofs.YthncdjcmlpiebaaGreat
/-- A clique lies in a maximal one. -/
theorem clq_ext {n : Nat} {Q : List Nat} (h : GOk n Q) {s : Nat} (hs : s < 2 ^ n) (hc : clq Q s = true) : ∃ M, M ∈ maxCliques Q n ∧ ∀ i, s.testBit i = true → M.testBit i = true := by
  obtain ⟨P, hP⟩ : ∃ P : Nat → Bool, P = fun t => clq Q t && (t &&& s == s) := ⟨_, rfl⟩
  have hPi : ∀ t, P t = true ↔ clq Q t = true ∧ ∀ i, s.testBit i = true → t.testBit i = true := fun t => by
    rw [hP]
    show (clq Q t && (t &&& s == s)) = true ↔ _
    rw [Bool.and_eq_true, beq_iff_eq]
    refine and_congr_right fun _ => ⟨fun e i hi => ?_, fun e => Nat.eq_of_testBit_eq fun i => ?_⟩
    · have := congrArg (fun x => x.testBit i) e
      simp only [Nat.testBit_and, hi, Bool.and_true] at this
      exact this
    · rw [Nat.testBit_and]
      rcases Bool.eq_false_or_eq_true (s.testBit i) with e' | e'
      · rw [e', e i e']; rfl
      · rw [e', Bool.and_false]
  have hpos := h.pos
  have h2n := Nat.two_pow_pos n
  have h1n : 1 ≤ 2 ^ n - 1 := by
    have : 2 ^ 1 ≤ 2 ^ n := Nat.pow_le_pow_right (by omega) hpos
    omega
  have hex : ∃ t, 1 ≤ t ∧ t ≤ 2 ^ n - 1 ∧ P t = true := by
    rcases Nat.eq_zero_or_pos s with rfl | h0
    · exact ⟨1, Nat.le_refl _, h1n, (hPi 1).2 ⟨clq_single h, fun i hi => by rw [Nat.zero_testBit] at hi; cases hi⟩⟩
    · exact ⟨s, h0, by omega, (hPi s).2 ⟨hc, fun _ hi => hi⟩⟩
  obtain ⟨M, m1, m2, m3, m4⟩ := top_exists _ hex
  obtain ⟨m5, m6⟩ := (hPi M).1 m3
  have hM : M < 2 ^ n := by omega
  refine ⟨M, maxK_mem m1 m2 ?_, m6⟩
  rw [maxi_yes m5]
  have key : ∀ v, v ≤ n → standsK Q M v = true := by
    intro v
    induction v with
    | zero => intro _; rfl
    | succ v ih =>
      intro hv
      rw [standsK, ih (by omega), Bool.true_and, stands]
      rcases Bool.eq_false_or_eq_true (M.testBit v) with e | e
      · rw [e]; rfl
      · rw [e, Bool.false_or, bne_iff_ne]
        intro hz
        have hsub : ∀ i, M.testBit i = true → edge Q v i = true := fun i hi => by
          have := congrArg (fun x => x.testBit i) hz
          simp only [testBit_dif, Nat.zero_testBit, hi, Bool.true_and] at this
          unfold edge
          simpa using this
        have hlt : M < M ||| 2 ^ v := by
          have hd : M &&& 2 ^ v = 0 := by
            apply Nat.eq_of_testBit_eq
            intro i
            rw [Nat.testBit_and, Nat.testBit_two_pow, Nat.zero_testBit]
            by_cases hi : v = i
            · subst hi; rw [e]; rfl
            · simp [hi]
          have := add_of_and hd
          have := Nat.two_pow_pos v
          omega
        have hlt2 : M ||| 2 ^ v < 2 ^ n := Nat.or_lt_two_pow hM (Nat.pow_lt_pow_right (by omega) (by omega))
        have hbit : ∀ i, (M ||| 2 ^ v).testBit i = true ↔ M.testBit i = true ∨ i = v := fun i => by
          rw [Nat.testBit_or, Nat.testBit_two_pow, Bool.or_eq_true, decide_eq_true_eq]
          exact or_congr_right eq_comm
        have hno := m4 _ hlt (by omega)
        have : P (M ||| 2 ^ v) = true := by
          rw [hPi]
          refine ⟨?_, fun i hi => (hbit i).2 (.inl (m6 i hi))⟩
          rw [clq_pairs h]
          intro a ha hsa b hsb hne
          rw [hbit] at hsa hsb
          rcases hsa with hsa | rfl
          · rcases hsb with hsb | rfl
            · exact (clq_pairs h).1 m5 a ha hsa b hsb hne
            · rw [h.edge_comm]; exact hsub a hsa
          · rcases hsb with hsb | rfl
            · exact hsub b hsb
            · exact absurd rfl hne
        rw [hno] at this
        cases this
  exact key n (Nat.le_refl _)
end Go.Proofs.YthncdjcmlpiebaaGreat
namespace Go.Proofs.YthncdjcmlpiebaaGreat
/-- Where x belongs among the first k. -/
def posK (out : List Int) (x : Int) : Nat → Nat
  | 0 => 0
  | k + 1 => if x < out.getD k 0 then posK out x k else k + 1
def posI (out : List Int) (x : Int) : Nat := posK out x out.length
def insI (out : List Int) (x : Int) : List Int := out.take (posI out x) ++ [x] ++ out.drop (posI out x)
def insK (xs : List Int) : Nat → List Int
  | 0 => []
  | k + 1 => insI (insK xs k) (xs.getD k 0)
def sortI (xs : List Int) : List Int := xs.mergeSort fun x y => decide (x ≤ y)
theorem posK_le (out : List Int) (x : Int) : ∀ k, posK out x k ≤ k
  | 0 => Nat.le_refl _
  | k + 1 => by rw [posK]; split; exact Nat.le_succ_of_le (posK_le out x k); exact Nat.le_refl _
theorem posI_le (out : List Int) (x : Int) : posI out x ≤ out.length := posK_le _ _ _
theorem posK_gt (out : List Int) (x : Int) : ∀ k j, posK out x k ≤ j → j < k → x < out.getD j 0
  | 0, j, _, h => by omega
  | k + 1, j, h1, h2 => by
    rw [posK] at h1
    split at h1
    · rename_i hx
      rcases Nat.lt_succ_iff_lt_or_eq.1 h2 with h3 | rfl
      · exact posK_gt out x k j h1 h3
      · exact hx
    · omega
theorem posK_le_at (out : List Int) (x : Int) : ∀ k, posK out x k = 0 ∨ out.getD (posK out x k - 1) 0 ≤ x
  | 0 => .inl rfl
  | k + 1 => by
    rw [posK]
    split
    · exact posK_le_at out x k
    · right
      rw [Nat.add_sub_cancel]
      omega
theorem insI_len (out : List Int) (x : Int) : (insI out x).length = out.length + 1 := by
  have := posI_le out x
  simp only [insI, List.length_append, List.length_take, List.length_drop, List.length_singleton]
  omega
theorem insK_len (xs : List Int) : ∀ k, (insK xs k).length = k
  | 0 => rfl
  | k + 1 => by rw [insK, insI_len, insK_len xs k]
theorem insI_perm (out : List Int) (x : Int) : (insI out x).Perm (x :: out) := by
  rw [insI]
  have h1 : (out.take (posI out x) ++ [x] ++ out.drop (posI out x)).Perm ([x] ++ out.take (posI out x) ++ out.drop (posI out x)) := List.Perm.append_right _ List.perm_append_comm
  have h2 : [x] ++ out.take (posI out x) ++ out.drop (posI out x) = x :: out := by simp
  rw [h2] at h1
  exact h1
theorem getD_memI {out : List Int} {j : Nat} (h : j < out.length) : out.getD j 0 = out[j] := by simp [List.getD, List.getElem?_eq_getElem h]
theorem insI_sorted {out : List Int} (x : Int) (h : out.Pairwise (· ≤ ·)) : (insI out x).Pairwise (· ≤ ·) := by
  have hle := posI_le out x
  have hg := List.pairwise_iff_getElem.1 h
  have hd : ∀ y ∈ out.drop (posI out x), x ≤ y := by
    intro y hy
    obtain ⟨j, hj, rfl⟩ := List.mem_iff_getElem.1 hy
    rw [List.getElem_drop]
    have hj' : posI out x + j < out.length := by rw [List.length_drop] at hj; omega
    have := posK_gt out x out.length (posI out x + j) (Nat.le_add_right _ _) hj'
    rw [getD_memI hj'] at this
    omega
  have ht : ∀ y ∈ out.take (posI out x), y ≤ x := by
    intro y hy
    obtain ⟨j, hj, rfl⟩ := List.mem_iff_getElem.1 hy
    rw [List.getElem_take]
    have hj' : j < posI out x := by rw [List.length_take] at hj; omega
    rcases posK_le_at out x out.length with e | e
    · have : posI out x = 0 := e
      omega
    · have e' : out.getD (posI out x - 1) 0 ≤ x := e
      rw [getD_memI (by omega)] at e'
      rcases Nat.lt_or_ge j (posI out x - 1) with h1 | h1
      · have := hg j (posI out x - 1) (by omega) (by omega) h1
        omega
      · obtain rfl : j = posI out x - 1 := by omega
        exact e'
  rw [insI, List.pairwise_append, List.pairwise_append]
  refine ⟨⟨h.sublist (List.take_sublist _ _), by simp, ?_⟩, h.sublist (List.drop_sublist _ _), ?_⟩
  · intro a ha b hb
    obtain rfl : b = x := by simpa using hb
    exact ht a ha
  · intro a ha b hb
    rcases List.mem_append.1 ha with ha | ha
    · exact Int.le_trans (ht a ha) (hd b hb)
    · obtain rfl : a = x := by simpa using ha
      exact hd b hb
theorem insK_perm (xs : List Int) : ∀ k, k ≤ xs.length → (insK xs k).Perm (xs.take k)
  | 0, _ => by simp [insK]
  | k + 1, h => by
    have h1 := insK_perm xs k (by omega)
    rw [insK, List.take_succ_eq_append_getElem (by omega), getD_memI (by omega)]
    exact (insI_perm _ _).trans ((h1.cons _).trans (List.perm_append_comm (l₁ := [xs[k]])))
theorem insK_sorted (xs : List Int) : ∀ k, (insK xs k).Pairwise (· ≤ ·)
  | 0 => by simp [insK]
  | k + 1 => insI_sorted _ (insK_sorted xs k)
theorem sortI_sorted (xs : List Int) : (sortI xs).Pairwise (· ≤ ·) := by
  have := List.pairwise_mergeSort (le := fun (x y : Int) => decide (x ≤ y)) (fun a b c h1 h2 => by simp at *; omega) (fun a b => by simp; omega) xs
  exact this.imp fun h => by simpa using h
theorem sortI_perm (xs : List Int) : (sortI xs).Perm xs := List.mergeSort_perm _ _
theorem sortI_len (xs : List Int) : (sortI xs).length = xs.length := (sortI_perm xs).length_eq
theorem sorted_unique {xs ys : List Int} (h1 : xs.Pairwise (· ≤ ·)) (h2 : ys.Pairwise (· ≤ ·)) (h : xs.Perm ys) : xs = ys := List.Perm.eq_of_pairwise (fun a b _ _ h3 h4 => by omega) h1 h2 h
/-- Insertion sorts. -/
theorem insK_all (xs : List Int) : insK xs xs.length = sortI xs := by
  have h1 := insK_perm xs xs.length (Nat.le_refl _)
  rw [List.take_length] at h1
  exact sorted_unique (insK_sorted _ _) (sortI_sorted _) (h1.trans (sortI_perm xs).symm)
end Go.Proofs.YthncdjcmlpiebaaGreat
namespace Go.Proofs.YthncdjcmlpiebaaGreat
open Go.RowKit
set_option maxRecDepth 100000 in
set_option maxHeartbeats 400000 in
theorem l8Same_any (A B : Option Addr) (n m ca cb : Nat) (xs ys : List Int) (w : World) (hA : RI w A n xs) (hB : RI w B m ys) (hn : n ≤ 9223372036854775807) :
    Calls Tryz.prog 118 #[.slice A n ca, .slice B m cb] w fun e w' => e = .returned (.bool (decide (xs = ys))) ∧ Below w.heap.size w w' := by
  have HX := Lib.hid hA.1
  have HY := Lib.hid hB.1
  by_cases hnm : n = m
  · subst hnm
    go_enter Tryz.func118, Tryz.ntmps118
    go_wp2
    go_loopw [5] (fun i wr => ∃ k : Nat, k ≤ n ∧ i = .int .i64 k ∧ Below w.heap.size w wr ∧ Hid (∀ j, j < k → xs.getD j 0 = ys.getD j 0)) (fun i _ => n - (intOf i).toNat)
    case atStart => exact ⟨0, Nat.zero_le _, rfl, Below.refl _ _, fun j h => absurd h (by omega)⟩
    case round =>
      obtain ⟨k, hk, rfl, hb, hall⟩ := hrel
      by_cases hlt : k < n
      · obtain ⟨a, rfl, ha, hca⟩ := (hA.up hb).at_ hlt
        obtain ⟨b, rfl, hb', hcb⟩ := (hB.up hb).at_ hlt
        go_wp2_with fail
        go_quiet (fail)
        go_wp2
        · go_ret
          have h : (xs[k]?.getD 0 != ys[k]?.getD 0) = true := by assumption
          exact ⟨ret_bool (list_ne_at (k := k) (by simpa using h)).symm, below_drewN hb _⟩
        · have h : (xs[k]?.getD 0 != ys[k]?.getD 0) = false := by assumption
          go_roundw
          case rel => exact ⟨k + 1, by omega, by go_num, below_drewN hb _, fun j hj => by
            rcases Nat.lt_succ_iff_lt_or_eq.1 hj with h' | rfl
            · exact hall.out j h'
            · simpa using h⟩
          case measure => simp [intOf]; omega
      · obtain rfl : k = n := by omega
        go_wp2
        go_ret
        exact ⟨ret_bool (list_eq_of HX.out HY.out hall.out).symm, hb⟩
  · have e : ((n : Int) != m) = true := by simp; omega
    go_enter Tryz.func118, Tryz.ntmps118
    go_wp2
    go_ret
    exact ⟨ret_bool (list_ne_len HX.out HY.out hnm).symm, Below.refl _ _⟩
set_option maxRecDepth 100000 in
set_option maxHeartbeats 400000 in
theorem slEqual_any (A B : Option Addr) (n m ca cb : Nat) (xs ys : List Int) (w : World) (hA : RI w A n xs) (hB : RI w B m ys) (hn : n ≤ 9223372036854775807) :
    Calls Tryz.prog 95 #[.slice A n ca, .slice B m cb] w fun e w' => e = .returned (.bool (decide (xs = ys))) ∧ Below w.heap.size w w' := by
  have HX := Lib.hid hA.1
  have HY := Lib.hid hB.1
  by_cases hnm : n = m
  · subst hnm
    go_enter Tryz.func95, Tryz.ntmps95
    go_wp2
    go_loopw [13] (fun i wr => ∃ k : Nat, k ≤ n ∧ i = .int .i64 k ∧ Below w.heap.size w wr ∧ Hid (∀ j, j < k → xs.getD j 0 = ys.getD j 0)) (fun i _ => n - (intOf i).toNat)
    case atStart => exact ⟨0, Nat.zero_le _, rfl, Below.refl _ _, fun j h => absurd h (by omega)⟩
    case round =>
      obtain ⟨k, hk, rfl, hb, hall⟩ := hrel
      by_cases hlt : k < n
      · obtain ⟨a, rfl, ha, hca⟩ := (hA.up hb).at_ hlt
        obtain ⟨b, rfl, hb', hcb⟩ := (hB.up hb).at_ hlt
        go_wp2_with fail
        go_quiet (fail)
        go_wp2
        · go_ret
          have h : (xs[k]?.getD 0 != ys[k]?.getD 0) = true := by assumption
          exact ⟨ret_bool (list_ne_at (k := k) (by simpa using h)).symm, below_drewN hb _⟩
        · have h : (xs[k]?.getD 0 != ys[k]?.getD 0) = false := by assumption
          go_roundw
          case rel => exact ⟨k + 1, by omega, by go_num, below_drewN hb _, fun j hj => by
            rcases Nat.lt_succ_iff_lt_or_eq.1 hj with h' | rfl
            · exact hall.out j h'
            · simpa using h⟩
          case measure => simp [intOf]; omega
      · obtain rfl : k = n := by omega
        go_wp2
        go_ret
        exact ⟨ret_bool (list_eq_of HX.out HY.out hall.out).symm, hb⟩
  · have e : ((n : Int) != m) = true := by simp; omega
    go_enter Tryz.func95, Tryz.ntmps95
    go_wp2
    go_ret
    exact ⟨ret_bool (list_ne_len HX.out HY.out hnm).symm, Below.refl _ _⟩
end Go.Proofs.YthncdjcmlpiebaaGreat
