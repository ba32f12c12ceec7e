/- Walks of chapter 4: FindHole, the reference's. Walks of chapter 4: FindClaw, the reference's. Walks of chapter 11 and 12: IntervalObstacle, ProperObstacle. -/
import Derived.Test.YthncdjcmlpiebaaW4B
import Derived.Test.YthncdjcmlpiebaaW4A
import Derived.Test.YthncdjcmlpiebaaW11B
namespace Go.Proofs.Ythncdjcmlpiebaa
open Go.RowKit
/-- What a search gives: the list that it found, or some slice. -/
def GivesF (r : Option (List Nat)) (base : Nat) (w : World) (e : Ending) (w' : World) : Prop :=
  (match r with
   | some q => ∃ A c, e = .returned (.tuple #[.slice A q.length c, .bool true]) ∧ OwnI w' base A q.length c (ints q)
   | none => ∃ A m c, e = .returned (.tuple #[.slice A m c, .bool false])) ∧ Below w.heap.size w w'
theorem srch_zero_yes {may holds : List Nat → Bool} {N : Nat} {l : List Nat} (h : holds l = true) : srch may holds N 0 l = some l := by rw [srch, if_pos h]
theorem srch_zero_no {may holds : List Nat → Bool} {N : Nat} {l : List Nat} (h : holds l = false) : srch may holds N 0 l = none := by rw [srch, h]; rfl
theorem specPath_is {N : Int} {A B : Option Addr} {n c m d : Nat} {X l : List Int} {w : World} {r : Bool} (hX : RI w A n X) (hL : RI w B m l) (hn : n ≤ 9223372036854775807) (hm : m ≤ 9223372036854775807) (hr : isPathL N X l = r) :
    Calls Try.prog 102 #[.agg #[.int .i64 N, .slice A n c], .slice B m d] w fun e w' => e = .returned (.bool r) ∧ Below w.heap.size w w' := by
  subst hr; exact specIsPath_any N A B n c m d X l w hX hL hn hm
set_option maxRecDepth 100000 in
set_option maxHeartbeats 4000000 in
theorem l4Search_any (n ca m : Nat) (A : Option Addr) (Q : List Nat) (h : GOk n Q) (hm : m ≤ 7) (base : Nat) : ∀ (f : Nat) (l : List Nat) (bd : Addr) (c : Nat) (w : World), l.length + f = m → OwnI w base (some bd) l.length c (ints l) → base ≤ w.heap.size → RI w A n (ints Q) →
    Calls Try.prog 76 #[.agg #[.int .i64 n, .slice A n ca], .slice (some bd) l.length c, .int .i64 m, .bool true] w (GivesF (srch (mayS n Q m) (holdsH n Q) n f l) base w) := by
  have hn7 := h.le
  intro f
  induction f with
  | zero =>
    intro l bd c w hf hown hbase hX
    have hlen : l.length = m := by omega
    have heq : ((l.length : Int) == (m : Int)) = true := by rw [beq_iff_eq]; omega
    have hU0 : Up w (w.alloc (.cells #[.int .i64 n, .slice A n ca] 26)) := by go_grown
    have hown' := hown.up hU0
    have hX' := hX.up hU0
    have hbk := Blk.new w 26 #[.int .i64 n, .slice A n ca]
    have hyb := hbk.two
    obtain ⟨b, hb⟩ : ∃ b, b = isHoleL n (ints Q) (ints l) := ⟨_, rfl⟩
    have H1 := Lib.hid hb.symm
    have HR := Lib.hid (show holdsH n Q l = b from hb.symm)
    have Hlen := Lib.hid hlen
    have hlm : l.length ≤ 9223372036854775807 := by omega
    have hnm : n ≤ 9223372036854775807 := by omega
    clear hb hf hlen
    go_enter Try.func76, Try.ntmps76
    go_wp2_with fail
    refine (specIsHole_is hX' hown'.ri hnm hlm H1.out).mono ?_
    rintro e w1 ⟨rfl, hb1⟩
    have hw1 := Up.then_ hU0 hb1
    have hown1 := hown'.up hb1
    go_wp2
    go_ret2
    cases b
    · rw [srch_zero_no HR.out]
      exact ⟨⟨_, _, _, rfl⟩, hw1⟩
    · rw [srch_zero_yes HR.out]
      exact ⟨⟨some bd, c, rfl, hown1⟩, hw1⟩
  | succ f ih =>
    intro l bd c w hf hown hbase hX
    have hne : ((l.length : Int) == (m : Int)) = false := by rw [beq_eq_false_iff_ne]; omega
    have Ih := Lib.hid ih
    have HS := Lib.hid (srch_step (mayS n Q m) (holdsH n Q) n f l)
    have hb0 := Blk.new w 26 #[.int .i64 n, .slice A n ca]
    have hyb := hb0.two
    have hnm : n ≤ 9223372036854775807 := by omega
    clear ih
    go_enter Try.func76, Try.ntmps76
    go_wp2_with fail
    go_loopw [10] (fun i wr => ∃ k : Nat, k ≤ n ∧ i = .int .i64 k ∧ Blk wr w.heap.size 26 #[.int .i64 n, .slice A n ca] ∧ Below w.heap.size w wr ∧ Hid (srchK (mayS n Q m) (holdsH n Q) n f l k = none)) (fun i _ => n - (intOf i).toNat)
    case atStart => exact ⟨0, Nat.zero_le _, rfl, hb0, by go_grown, srchK_zero _ _ _ _ _⟩
    case round =>
      clear hb0 hyb
      obtain ⟨k, hk, rfl, hb0, hb, hno⟩ := hrel
      have hyb := hb0.two
      by_cases hkt : k < n
      · have hsz := hb.size
        have hownr := hown.up hb
        have hown0 := OwnI.made (base := wr.heap.size) wr (Nat.le_refl _)
        have hll : l.length + 1 ≤ 1048576 := by omega
        go_wp2_with (at_builtin; first | (refine wpList_cat rfl (.tmp 30) (.tmp 31) rfl rfl hown0 rfl (hownr.ri.alloc _) (by omega) (by simp) ?_; intro A1 c1 w1 hown1 hb1 hg1; have hcell := (Blk.new w1 3 #[.int .i64 (k : Int)]).one; have hsz1 := hb1.size; simp only [World.size_alloc] at hsz1) | (refine wpList_push rfl (.tmp 32) (.tmp 34) rfl (k : Int) rfl (hown1.alloc _) ⟨w1.heap.size, 0, none⟩ rfl hcell (by omega) (by simp; omega) ?_; intro A2 c2 w2 hown2 hb2 hg2; have hU1 : Up wr w1 := ((Below.refl _ wr).alloc (Nat.le_refl _) _).trans hb1; have hU2 : Up wr w2 := (hU1.alloc (Nat.le_of_succ_le hsz1) _).trans hb2; have hyb2 := (hb0.up hU2).two))
        have hx2 : OwnI w2 wr.heap.size A2 (l.length + 1) c2 (ints (l ++ [k])) := hown2.cast rfl (ints_app l k).symm
        have HLen := Lib.hid (show (l ++ [k]).length = l.length + 1 from push_len.symm)
        obtain ⟨gx, rfl⟩ := hx2.form (by omega)
        clear hown0 hown1 hown2 hcell hg1 hg2 hyb hyb2
        replace hb0 := hb0.up hU2
        have hyb := hb0.two
        have hlb := hb0.lt
        have hw2 := Up.then_ hb hU2
        have hXr := hX.up hw2
        have hbs : base ≤ w2.heap.size := by have := hw2.size; omega
        have hbs2 : base ≤ wr.heap.size := by omega
        have hfx : l.length + 1 + f = m := by omega
        have hl1m : l.length + 1 ≤ 9223372036854775807 := by omega
        have hpk : (k : Int) + 1 ≤ 9223372036854775807 := by omega
        obtain ⟨b1, hb1e⟩ : ∃ b, b = isPathL n (ints Q) (ints (l ++ [k])) := ⟨_, rfl⟩
        have E1 := Lib.hid hb1e.symm
        have HM := Lib.hid (nextOk_mayS (n := n) (m := m) (Q := Q) (l := l) (v := k))
        clear hb1e hU1 hsz1
        have goOn : ∀ w4, Up w2 w4 → nextOk (mayS n Q m) l k = true → Calls Try.prog 76 #[.agg #[.int .i64 n, .slice A n ca], .slice (some ⟨gx, 0, none⟩) (l.length + 1) c2, .int .i64 m, .bool true] w4 (GivesF (srchAt (mayS n Q m) (holdsH n Q) n f l k) base w4) := by
          intro w4 hU4 hnx
          have hih := Ih.out (l ++ [k]) ⟨gx, 0, none⟩ c2 w4 (by rw [HLen.out]; exact hfx) ((hx2.up hU4).more hbs2 |>.cast HLen.out.symm rfl) (Nat.le_trans hbs hU4.size) (hXr.up hU4)
          rw [HLen.out] at hih
          rw [srchAt_on hnx]
          exact hih
        have HGo := Lib.hid goOn
        clear goOn
        cases b1
        · by_cases hlm : l.length + 1 = m
          · obtain ⟨b2, hb2e⟩ : ∃ b, b = isHoleL n (ints Q) (ints (l ++ [k])) := ⟨_, rfl⟩
            have E2 := Lib.hid hb2e.symm
            clear hb2e
            have heqm : ((l.length : Int) + 1 == (m : Int)) = true := by rw [beq_iff_eq]; omega
            have HNX := Lib.hid (show nextOk (mayS n Q m) l k = b2 by rw [HM.out, mayS, E1.out, E2.out, HLen.out, decide_eq_true hlm]; rfl)
            clear hlm hfx
            refine (specPath_is (hXr.up (by go_grown)) hx2.ri hnm hl1m E1.out).mono ?_
            rintro e w4 ⟨rfl, hb4⟩
            have hU4 : Up w2 w4 := Up.then_ (by go_grown) hb4
            replace hx2 := hx2.up hU4
            replace hb0 := hb0.up hU4
            have yhb0 := hb0.two
            have lhb0 := hb0.lt
            go_wp2_with fail
            refine (specIsHole_is (hXr.up (Up.then_ hU4 (by go_grown))) hx2.ri hnm hl1m E2.out).mono ?_
            rintro e w5 ⟨rfl, hb5⟩
            have hU5 : Up w4 w5 := Up.then_ (by go_grown) hb5
            replace hx2 := hx2.up hU5
            replace hb0 := hb0.up hU5
            replace yhb0 := hb0.two
            replace lhb0 := hb0.lt
            have hU45 := Up.then_ hU4 hU5
            have hw5 := Up.then_ hw2 hU45
            cases b2
            · have HA := Lib.hid (srchAt_off (holds := holdsH n Q) (N := n) (f := f) HNX.out)
              go_wp2
              go_roundw
              case rel => exact ⟨k + 1, by omega, by go_num, hb0, hw5, srchK_none hno.out HA.out⟩
              case measure => simp [intOf]; omega
            · have hih := HGo.out w5 hU45 HNX.out
              go_wp2_with fail
              refine hih.mono ?_
              clear hih
              rintro e w6 ⟨hg6, hb6⟩
              have hw6 := Up.then_ hw5 hb6
              replace hb0 := hb0.up hb6
              rcases hsr : srchAt (mayS n Q m) (holdsH n Q) n f l k with _ | r
              · have HK := Lib.hid (srchK_none hno.out hsr)
                rw [hsr] at hg6
                clear hsr
                obtain ⟨A6, m6, c6, rfl⟩ := hg6
                go_wp2
                go_roundw
                case rel => exact ⟨k + 1, by omega, by go_num, hb0, hw6, HK.out⟩
                case measure => simp [intOf]; omega
              · have HK := Lib.hid (srchK_some hno.out hsr hkt)
                rw [hsr] at hg6
                clear hsr
                obtain ⟨A6, c6, rfl, hown6⟩ := hg6
                go_wp2
                go_ret2
                rw [HK.out]
                exact ⟨⟨A6, c6, rfl, hown6⟩, hw6⟩
          · have heqm : ((l.length : Int) + 1 == (m : Int)) = false := by rw [beq_eq_false_iff_ne]; omega
            have HNX := Lib.hid (show nextOk (mayS n Q m) l k = false by rw [HM.out, mayS, E1.out, HLen.out, decide_eq_false hlm]; rfl)
            clear hlm hfx
            refine (specPath_is (hXr.up (by go_grown)) hx2.ri hnm hl1m E1.out).mono ?_
            rintro e w4 ⟨rfl, hb4⟩
            have hU4 : Up w2 w4 := Up.then_ (by go_grown) hb4
            replace hx2 := hx2.up hU4
            replace hb0 := hb0.up hU4
            have yhb0 := hb0.two
            have lhb0 := hb0.lt
            have hw4 := Up.then_ hw2 hU4
            have HA := Lib.hid (srchAt_off (holds := holdsH n Q) (N := n) (f := f) HNX.out)
            go_wp2
            go_roundw
            case rel => exact ⟨k + 1, by omega, by go_num, hb0, hw4, srchK_none hno.out HA.out⟩
            case measure => simp [intOf]; omega
        · have HNX := Lib.hid (show nextOk (mayS n Q m) l k = true by rw [HM.out, mayS, E1.out]; rfl)
          refine (specPath_is (hXr.up (by go_grown)) hx2.ri hnm hl1m E1.out).mono ?_
          rintro e w4 ⟨rfl, hb4⟩
          have hU4 : Up w2 w4 := Up.then_ (by go_grown) hb4
          replace hx2 := hx2.up hU4
          replace hb0 := hb0.up hU4
          have yhb0 := hb0.two
          have lhb0 := hb0.lt
          have hw4 := Up.then_ hw2 hU4
          have hih := HGo.out w4 hU4 HNX.out
          go_wp2_with fail
          refine hih.mono ?_
          clear hih
          rintro e w6 ⟨hg6, hb6⟩
          have hw6 := Up.then_ hw4 hb6
          replace hb0 := hb0.up hb6
          rcases hsr : srchAt (mayS n Q m) (holdsH n Q) n f l k with _ | r
          · have HK := Lib.hid (srchK_none hno.out hsr)
            rw [hsr] at hg6
            clear hsr
            obtain ⟨A6, m6, c6, rfl⟩ := hg6
            go_wp2
            go_roundw
            case rel => exact ⟨k + 1, by omega, by go_num, hb0, hw6, HK.out⟩
            case measure => simp [intOf]; omega
          · have HK := Lib.hid (srchK_some hno.out hsr hkt)
            rw [hsr] at hg6
            clear hsr
            obtain ⟨A6, c6, rfl, hown6⟩ := hg6
            go_wp2
            go_ret2
            rw [HK.out]
            exact ⟨⟨A6, c6, rfl, hown6⟩, hw6⟩
      · obtain rfl : k = n := by omega
        have hsz := hb.size
        have HN := Lib.hid (HS.out.trans hno.out)
        go_wp2
        go_ret2
        rw [HN.out]
        exact ⟨⟨_, _, _, rfl⟩, hb.alloc hsz (.cells #[] 3)⟩
set_option maxRecDepth 100000 in
set_option maxHeartbeats 4000000 in
theorem specFindHole_any (N : Int) (A : Option Addr) (n c : Nat) (X : List Int) (w : World) (hX : RI w A n X) (hn : n ≤ 9223372036854775807) :
    Calls Try.prog 27 #[.agg #[.int .i64 N, .slice A n c]] w (GivesIB (optL (holeOf N X)) (holeOf N X).isSome w) := by
  have hbk := Blk.new w 26 #[.int .i64 N, .slice A n c]
  have hyb := hbk.two
  have hU0 : Up w (w.alloc (.cells #[.int .i64 N, .slice A n c] 26)) := by go_grown
  obtain ⟨W, hW⟩ : ∃ W, W = w.alloc (.cells #[.int .i64 N, .slice A n c] 26) := ⟨_, rfl⟩
  rw [← hW] at hbk hyb hU0
  have hXW := hX.up hU0
  rcases isGraph_cases N X with hg | ⟨k, Q, rfl, rfl, h⟩
  · have H1 := Lib.hid hg
    rw [holeOf_no hg]
    clear hg
    go_enter Try.func27, Try.ntmps27
    go_wp2_with fail
    rw [← hW]
    clear hW
    go_loopw [4] (fun s wr => s = .int .i64 4 ∧ Up W wr) (fun _ _ => 0)
    case atStart => exact ⟨rfl, Up.refl _⟩
    case round =>
      obtain ⟨rfl, hb⟩ := hrel
      obtain ⟨wo, rfl⟩ : ∃ wo : World, wo = wr := ⟨_, rfl⟩
      have hyo := (hbk.up hb).two
      have hXo := hXW.up hb
      by_cases hN : 4 ≤ N
      · have d1 : decide (4 ≤ N) = true := decide_eq_true hN
        go_wp2_with (go_at_call 29; refine (specIsGraph_is hXo hn H1.out).mono ?_; rintro e w1 ⟨rfl, hb1⟩)
        have hU1 := Up.then_ (Up.then_ hU0 hb) hb1
        have hown0 := OwnI.made (base := w1.heap.size) w1 (Nat.le_refl _)
        have hww := hU1.alloc hU1.size (.cells #[] 3)
        go_ret2
        exact givesIB_none hown0 hU1.size hww
      · have d1 : decide (4 ≤ N) = false := decide_eq_false hN
        have hU1 := Up.then_ hU0 hb
        have hown0 := OwnI.made (base := wo.heap.size) wo (Nat.le_refl _)
        have hww := hU1.alloc hU1.size (.cells #[] 3)
        go_wp2
        go_ret2
        exact givesIB_none hown0 hU1.size hww
  · obtain rfl : n = k := by rw [← hX.1, ints_len, h.len]
    have hn7 := h.le
    have HO := Lib.hid (holeOf_ok h)
    have H1 := Lib.hid h.is
    go_enter Try.func27, Try.ntmps27
    go_wp2_with fail
    rw [← hW]
    clear hW hyb
    go_loopw [4] (fun s wr => ∃ k : Nat, k ≤ 8 ∧ s = .int .i64 k ∧ Up W wr ∧ 4 ≤ k ∧ Hid ((k ≤ n + 1 ∨ k = 4) ∧ holeK n Q (k - 4) = none)) (fun s _ => 8 - (intOf s).toNat)
    case atStart => exact ⟨4, by omega, rfl, Up.refl _, by omega, .inr rfl, rfl⟩
    case round =>
      obtain ⟨k, hk8, rfl, hb, hk4, hK⟩ := hrel
      obtain ⟨wo, rfl⟩ : ∃ wo : World, wo = wr := ⟨_, rfl⟩
      have hbko := hbk.up hb
      have hyo := hbko.two
      have hXo := hXW.up hb
      by_cases hkn : k ≤ n
      · have hk7 : k ≤ 7 := by omega
        have d1 : decide ((k : Int) ≤ (n : Int)) = true := decide_eq_true (by omega)
        go_wp2_with (go_at_call 29; refine (specIsGraph_is hXo hn H1.out).mono ?_; rintro e w1 ⟨rfl, hb1⟩; have hy1 := (hbko.up hb1).two; have hl1 := (hbko.up hb1).lt)
        have hUW := Up.then_ hU0 (Up.then_ hb hb1)
        have hown0 := OwnI.made (base := w1.heap.size) w1 (Nat.le_refl _)
        have hX1 := (hXo.up hb1).alloc (.cells #[] 3)
        have hcall := l4Search_any n c k A Q h hk7 w1.heap.size k [] ⟨w1.heap.size, 0, none⟩ 0 _ (by simp) hown0 (by simp) hX1
        refine hcall.mono ?_
        clear hcall hyo hy1
        rintro e w2 ⟨hg2, hb2⟩
        have hU2 : Up w1 w2 := Up.then_ (by go_grown) hb2
        have hU02 := Up.then_ hUW hU2
        have hW2 : Up W w2 := Up.then_ hb (Up.then_ hb1 hU2)
        rcases hsr : holeM n Q k with _ | r
        · have HK := Lib.hid (show holeK n Q (k + 1 - 4) = none by
            have := holeK_none hK.out.2 (by rw [show k - 4 + 4 = k by omega]; exact hsr)
            rwa [show k - 4 + 1 = k + 1 - 4 by omega] at this)
          have hg3 := hg2
          rw [show srch (mayS n Q k) (holdsH n Q) n k [] = none from hsr] at hg3
          clear hsr hg2
          obtain ⟨A3, m3, c3, rfl⟩ := hg3
          go_wp2
          go_roundw
          case rel => exact ⟨k + 1, by omega, by go_num, hW2, by omega, .inl (by omega), HK.out⟩
          case measure => simp [intOf]; omega
        · have HK := Lib.hid (show holeOf n (ints Q) = some r by rw [HO.out]; exact holeK_some hK.out.2 (by rw [show k - 4 + 4 = k by omega]; exact hsr) (n - 3) (by omega))
          have hg3 := hg2
          rw [show srch (mayS n Q k) (holdsH n Q) n k [] = some r from hsr] at hg3
          clear hsr hg2
          obtain ⟨A3, c3, rfl, hown3⟩ := hg3
          have hsz := hUW.size
          go_wp2
          go_ret2
          rw [HK.out]
          exact givesIB_some hown3 hsz hU02
      · have HK := Lib.hid (show holeOf n (ints Q) = none by
          rw [HO.out, show n - 3 = k - 4 by have := hK.out.1; omega]
          exact hK.out.2)
        have d1 : decide ((k : Int) ≤ (n : Int)) = false := decide_eq_false (by omega)
        have hU1 := Up.then_ hU0 hb
        have hown0 := OwnI.made (base := wo.heap.size) wo (Nat.le_refl _)
        have hww := hU1.alloc hU1.size (.cells #[] 3)
        go_wp2
        go_ret2
        rw [HK.out]
        exact givesIB_none hown0 hU1.size hww
end Go.Proofs.Ythncdjcmlpiebaa
namespace Go.Proofs.Ythncdjcmlpiebaa
open Go.RowKit
end Go.Proofs.Ythncdjcmlpiebaa
namespace Go.Proofs.Ythncdjcmlpiebaa
open Go.RowKit
def ivObsOf (N : Int) (X : List Int) : Option (List Nat) := (holeOf N X).or (tripOf N X)
def prObsOf (N : Int) (X : List Int) : Option (List Nat) := (clawOf N X).or (ivObsOf N X)
theorem or_none_ {a b : Option (List Nat)} (h : a = none) : a.or b = b := by rw [h]; rfl
theorem or_some_ {a b : Option (List Nat)} {r : List Nat} (h : a = some r) : a.or b = some r := by rw [h]; rfl
theorem GivesIB.out_none {w : World} {e : Ending} {w' : World} {r : Option (List Nat)} (hr : r = none) (h : GivesIB (optL r) r.isSome w e w') : ∃ A m c, e = .returned (.tuple #[.slice A m c, .bool false]) ∧ Below w.heap.size w w' := by
  subst hr
  obtain ⟨A, c, rfl, _, hb⟩ := h
  exact ⟨A, _, c, rfl, hb⟩
theorem GivesIB.out_some {w : World} {e : Ending} {w' : World} {r : Option (List Nat)} {q : List Nat} (hr : r = some q) (h : GivesIB (optL r) r.isSome w e w') : ∃ A c, e = .returned (.tuple #[.slice A q.length c, .bool true]) ∧ OwnI w' w.heap.size A q.length c (ints q) ∧ Below w.heap.size w w' := by
  subst hr
  obtain ⟨A, c, rfl, hown, hb⟩ := h
  have e : (optL (some q)).length = q.length := ints_len q
  rw [e] at hown ⊢
  exact ⟨A, c, rfl, hown, hb⟩
end Go.Proofs.Ythncdjcmlpiebaa
