/- Walks of chapter 12: UnitModelOf, the program's. -/
import Derived.Test.YtfodbgogeclifaaW12u
import Derived.Test.YtfodbgogeclifaaPure12v
import Derived.Test.YtfodbgogeclifaaGives
import Derived.Test.YtfodbgogeclifaaApp2
namespace Go.Proofs.Ytfodbgogeclifaa
open Go.RowKit
def unitL (Q o : List Nat) (n : Nat) : List Nat := lfo o n (rsR (adjP Q o) n 3)
def unitR (Q o : List Nat) (n : Nat) : List Nat := (unitL Q o n).map (· + 7)
def unitOf (N : Int) (X : List Int) : List Int × List Int × Bool := match umbOf N X with
  | some o => (ints (unitL (X.map Int.toNat) o N.toNat), ints (unitR (X.map Int.toNat) o N.toNat), true)
  | none => ([], [], false)
theorem unitOf_none {N : Int} {X : List Int} (h : umbOf N X = none) : unitOf N X = ([], [], false) := by rw [unitOf, h]
theorem unitOf_some {n : Nat} {Q o : List Nat} (h : umbOf n (ints Q) = some o) : unitOf n (ints Q) = (ints (unitL Q o n), ints (unitR Q o n), true) := by rw [unitOf, h, nats_ints4, Int.toNat_natCast]
theorem unitL_len (Q o : List Nat) (n : Nat) : (unitL Q o n).length = n := lfo_len _ _ _
theorem unitR_len (Q o : List Nat) (n : Nat) : (unitR Q o n).length = n := by simp [unitR, unitL_len]
/-- What the first umbrella order is. -/
theorem umbOf_spec {N : Int} {X : List Int} {o : List Nat} (hu : umbOf N X = some o) : ∃ (n : Nat) (Q : List Nat), N = n ∧ X = ints Q ∧ GOk n Q ∧ natVerts n o ∧ o.length = n ∧ umb Q o = true := by
  rcases Bool.eq_false_or_eq_true (isGraph N X) with hg | hg
  · obtain ⟨n, Q, rfl, rfl, h⟩ := isGraph_ok hg
    rw [umbOf_ok h] at hu
    obtain ⟨h1, _, h3, h4, h5⟩ := srch_spec hu
    have hl : o.length = n := by simpa using h1
    refine ⟨n, Q, rfl, rfl, h, ⟨h3 (by simp), h4 (by simp)⟩, hl, h5 ?_⟩
    intro h0
    have := h.pos
    omega
  · rw [umbOf_no hg] at hu; cases hu
theorem rsK_len (J : Nat → Nat → Bool) (s : List Nat × Bool) : ∀ k, (rsK J s k).1.length = s.1.length := by
  have hu : ∀ (s : List Nat × Bool) v l, (upF s v l).1.length = s.1.length := fun s v l => by unfold upF; split <;> simp
  have hI : ∀ (s : List Nat × Bool) k i, (rsI J s k i).1.length = s.1.length := fun s k i => by
    induction i with
    | zero => rfl
    | succ i ih =>
      rw [rsI, rsB]
      have hA : (rsA J (rsI J s k i) k i).1.length = s.1.length := by rw [rsA]; split <;> rw [hu, ih]
      split
      · rw [hu, hA]
      · exact hA
  intro k
  induction k with
  | zero => rfl
  | succ k ih => rw [rsK, hI, ih]
theorem rsR_len (J : Nat → Nat → Bool) (n : Nat) : ∀ r, (rsR J n r).length = n
  | 0 => by simp [rsR]
  | r + 1 => by rw [rsR, rsK_len]; exact rsR_len J n r
theorem givesTB_of {w w' : World} {A B : Option Addr} {n c d base : Nat} {L R : List Nat} {b : Bool} (hl : L.length = n) (hr : R.length = n) (hL : OwnI w' base A n c (ints L)) (hR : OwnI w' base B n d (ints R)) (hap : ∀ k, (Value.slice A n c).ownBlock = some k → (Value.slice B n d).ownBlock ≠ some k) (hbase : w.heap.size ≤ base) (hb : Below w.heap.size w w') :
    GivesTB (ints L) (ints R) b w (.returned (.tuple #[.agg #[.slice A n c, .slice B n d], .bool b])) w' := by
  subst hl
  have e1 := ints_len L
  have e2 := ints_len R
  rw [hr] at e2
  exact ⟨A, c, B, d, by rw [e1, e2], (hL.cast e1.symm rfl).more hbase, (hR.cast e2.symm rfl).more hbase, by rw [e1, e2]; exact hap, hb⟩
theorem rsR_le (J : Nat → Nat → Bool) {n : Nat} (h7 : n ≤ 7) : ∀ r i, nb (rsR J n r) i ≤ 400 * r
  | 0, i => by
    unfold nb rsR
    simp only [List.getD_eq_getElem?_getD, List.getElem?_replicate]
    split <;> simp
  | r + 1, i => by
    rw [rsR]
    have := rsK_le (J := J) (s := (rsR J n r, false)) (rsR_le J h7 r) n h7 i
    omega
theorem take_snoc7 {L : List Nat} {j : Nat} (h : j < L.length) : (L.take (j + 1)).map (· + 7) = (L.take j).map (· + 7) ++ [nb L j + 7] := by
  rw [List.take_succ_eq_append_getElem h, List.map_append]
  simp [nb, List.getD, List.getElem?_eq_getElem h]
set_option maxRecDepth 100000 in
set_option maxHeartbeats 2000000 in
theorem implUnitModelOf_any (N : Int) (A : Option Addr) (n c : Nat) (X : List Int) (w : World) (hX : RI w A n X) (hn : n ≤ 9223372036854775807) :
    Calls Try.prog 54 #[.agg #[.int .i64 N, .slice A n c]] w (GivesTB (unitOf N X).1 (unitOf N X).2.1 (unitOf N X).2.2 w) := by
  have hbk := (Blk.new w 45 #[.int .i64 N, .slice A n c]).alloc (.cells #[.slice none 0 0, .slice none 0 0] 24)
  have hbr := Blk.new_at (w := w.alloc (.cells #[.int .i64 N, .slice A n c] 45)) (t := 24) (cs := #[.slice none 0 0, .slice none 0 0]) (g := w.heap.size + 1) (by simp)
  have hU0 : Up w ((w.alloc (.cells #[.int .i64 N, .slice A n c] 45)).alloc (.cells #[.slice none 0 0, .slice none 0 0] 24)) := by go_grown
  have hl0 : w.heap.size + 2 = ((w.alloc (.cells #[.int .i64 N, .slice A n c] 45)).alloc (.cells #[.slice none 0 0, .slice none 0 0] 24)).heap.size := by simp
  obtain ⟨W, hW⟩ : ∃ W, W = (w.alloc (.cells #[.int .i64 N, .slice A n c] 45)).alloc (.cells #[.slice none 0 0, .slice none 0 0] 24) := ⟨_, rfl⟩
  rw [← hW] at hbk hbr hU0 hl0
  have hX0 := hX.up hU0
  have hy0 := hbk.two
  go_enter Try.func54, Try.ntmps54
  go_wp2_with fail
  rw [← hW]
  clear hW
  refine (implUmbrellaOf_any N A n c X _ hX0 hn).mono ?_
  rcases hu : umbOf N X with _ | o
  · have HR := Lib.hid (unitOf_none hu)
    clear hu
    rintro e w1 ⟨B, d, rfl, hO, hb1⟩
    have hbr1 := hbr.up hb1
    have e1 := hbr1.two
    have f0 := hbr1.frozen 0
    have f1 := hbr1.frozen 1
    have hfin := ((hbr1.set_ 0 (.slice none 0 0)).set_ 1 (.slice none 0 0)).two
    have hbf := ((Up.then_ hU0 hb1).setCell (p := ⟨w.heap.size + 1, 0, none⟩) (by simp) (.slice none 0 0)).setCell (p := ⟨w.heap.size + 1, 1, none⟩) (by simp) (.slice none 0 0)
    simp only [optL, Option.isSome_none]
    go_wp2
    generalize (w1.setCell ⟨w.heap.size + 1, 0, none⟩ (.slice none 0 0)).setCell ⟨w.heap.size + 1, 1, none⟩ (.slice none 0 0) = Wf at hfin hbf ⊢
    refine bodyPost_ret (v := .tuple #[.agg #[.slice none 0 0, .slice none 0 0], .bool false]) ?_ rfl ?_
    · simp [results, Try.results54, go_sem, hfin]
    rw [HR.out]
    exact ⟨none, 0, none, 0, rfl, OwnI.nil_ _ _, OwnI.nil_ _ _, (fun j h => by simp [Value.ownBlock] at h), hbf⟩
  · obtain ⟨n', Q, rfl, rfl, h, ho, hl, hum⟩ := umbOf_spec hu
    obtain rfl : n = n' := by rw [← hX.1, ints_len, h.len]
    have HR := Lib.hid (unitOf_some hu)
    clear hu
    rintro e w1 ⟨B, d, rfl, hO, hb1⟩
    have h7 := h.le
    have hpos := h.pos
    have HG := Lib.hid h
    have HO := Lib.hid ho
    have HL := Lib.hid hl
    have hsame := unit_same h hl hum
    have HS3 := Lib.hid hsame.1
    have hlo : (optL (some o)).length = n := by show (ints o).length = n; rw [ints_len, hl]
    rw [hlo] at hO ⊢
    replace hO : OwnI w1 W.heap.size B n d (ints o) := hO
    have hdc := hO.cap
    have hX1 := hX0.up hb1
    have hmk := make_ints n (by omega)
    have hya := fun o o' => ((hbk.up hb1).alloc o |>.alloc o').two
    have hy1 := (hbk.up hb1).two
    obtain ⟨aa, rfl, hla, _⟩ := hX0.addr hpos
    obtain ⟨gB, rfl⟩ := hO.form (by omega)
    clear hy0 hsame hlo h hum
    simp only [Option.isSome_some]
    go_wp2_with fail
    have hU2 : Up w1 ((w1.alloc (.cells (zeros n) 3)).alloc (.cells #[.slice (some ⟨w1.heap.size, 0, none⟩) n n, .slice none 0 0] 24)) := by go_grown
    have hM := (Blk.new w1 3 (zeros n)).alloc (.cells #[.slice (some ⟨w1.heap.size, 0, none⟩) n n, .slice none 0 0] 24)
    have hB := Blk.new_at (w := w1.alloc (.cells (zeros n) 3)) (t := 24) (cs := #[.slice (some ⟨w1.heap.size, 0, none⟩) n n, .slice none 0 0]) (g := w1.heap.size + 1) (by simp)
    have hgB := (hO.block gB rfl).2
    have hl1 := hb1.size
    obtain ⟨gM, hgM⟩ : ∃ gM, gM = w1.heap.size := ⟨_, rfl⟩
    obtain ⟨bM, hbM⟩ : ∃ bM, bM = w1.heap.size + 1 := ⟨_, rfl⟩
    have hU3 := Up.then_ (Up.then_ hU0 hb1) hU2
    have hbk2 := (hbk.up hb1).up hU2
    have hbr2 := (hbr.up hb1).up hU2
    have hO2 := (hO.up hU2).ri
    have hX2 := hX1.up hU2
    rw [← hbM] at hB
    rw [← hbM]
    rw [← hgM] at hM hB hU2 hU3 hbk2 hbr2 hO2 hX2
    rw [← hgM]
    have hz : zeros n = natCells (lfo o n (rsR (adjP Q o) n 0)) := by
      rw [← natCells_zero]
      congr 1
      refine nb_ext (by simp [lfo]) fun v hv => ?_
      have hv' : v < n := by simpa using hv
      rw [nb_lfo _ hv']
      simp only [nb, rsR, List.getD_eq_getElem?_getD, List.getElem?_replicate]
      split <;> split <;> rfl
    obtain ⟨w2, hw2⟩ : ∃ w2, w2 = (w1.alloc (.cells (zeros n) 3)).alloc (.cells #[.slice (some ⟨gM, 0, none⟩) n n, .slice none 0 0] 24) := ⟨_, rfl⟩
    have hsz2 : w2.heap.size = w1.heap.size + 2 := by rw [hw2]; simp
    rw [← hw2] at hM hB hU2 hU3 hbk2 hbr2 hO2 hX2
    rw [← hw2]
    rw [hz] at hM
    have hgw : w.heap.size ≤ gM := by omega
    have hgBM : gB ≠ gM := by omega
    have haM : aa.block ≠ gM := by omega
    have hbMg : w.heap.size ≤ bM := by omega
    have hgMbM : gM < bM := by omega
    have hbM1 : w.heap.size + 1 < bM := by omega
    have hgM2 : bM < w2.heap.size := by omega
    clear hw2 hz hmk hya hy1 hbk hbr hX0 hX1 hO hU2 hgM hbM hsz2
    obtain ⟨J, hJ⟩ : ∃ J, J = adjP Q o := ⟨_, rfl⟩
    have HJ := Lib.hid hJ
    rw [← hJ] at hM HS3
    have HRl := Lib.hid fun r => rsR_le J h7 r
    have HRn := Lib.hid fun r => rsR_len J n r
    clear hJ
    go_loopw [7] (fun t wr => ∃ r : Nat, r ≤ 3 ∧ t = .int .i64 r ∧ Blk wr gM 3 (natCells (lfo o n (rsR J n r))) ∧ Blk wr bM 24 #[.slice (some ⟨gM, 0, none⟩) n n, .slice none 0 0] ∧ RI wr (some ⟨gB, 0, none⟩) n (ints o) ∧ RI wr (some aa) n (ints Q) ∧ Blk wr w.heap.size 45 #[.int .i64 n, .slice (some aa) n c] ∧ Blk wr (w.heap.size + 1) 24 #[.slice none 0 0, .slice none 0 0] ∧ Up w wr) (fun t _ => 4 - (intOf t).toNat)
    case atStart => exact ⟨0, by omega, rfl, hM, hB, hO2, hX2, hbk2, hbr2, hU3⟩
    case round =>
      clear hM hB hO2 hX2 hbk2 hbr2 hU3
      obtain ⟨r, hr, rfl, hM, hB, hO2, hX2, hbk2, hbr2, hU⟩ := hrel
      obtain ⟨wo, rfl⟩ : ∃ wo : World, wo = wr := ⟨_, rfl⟩
      have hyk := hbk2.two
      have hyB := hB.two
      have hR1 := Lib.hid (raised_any (some aa) (some ⟨gB, 0, none⟩) n c d gM n (400 * r) Q o (rsR J n r) wo hX2 hO2 HG.out HO.out HL.out (HRn.out r) hdc.1 hdc.2 hM (HRl.out r) (by omega) (fun ad e => by injection e with e; subst e; exact haM) (fun ad e => by injection e with e; subst e; exact hgBM))
      go_wp2_with fail
      refine hR1.out.mono ?_
      rintro e w5 ⟨rfl, hM5, hg5⟩
      have HF := Lib.hid (show (rsK (fun i k => edge Q (nb o i) (nb o k)) (rsR J n r, false) n).2 = rsF J n r by rw [rsF, HJ.out]; rfl)
      have HN := Lib.hid (show (rsK (fun i k => edge Q (nb o i) (nb o k)) (rsR J n r, false) n).1 = rsR J n (r + 1) by rw [rsR, HJ.out]; rfl)
      rw [HF.out]
      rw [HN.out] at hM5
      have hB5 := hB.grown hg5 (by simp; exact hB.ne_ hM (by decide))
      have hO5 := hO2.grown hg5 (fun ad e => by injection e with e; subst e; simpa using hgBM)
      have hX5 := hX2.grown hg5 (fun ad e => by injection e with e; subst e; simpa using haM)
      have hbk5 := hbk2.grown hg5 (by simp; exact hbk2.ne_ hM (by decide))
      have hbr5 := hbr2.grown hg5 (by simp; exact hbr2.ne_ hM (by decide))
      have hU5 := hU.grown hg5 hU.size (fun k hk => by cases hk; exact hgw)
      clear hR1 hM hB hO2 hX2 hbk2 hbr2 hU hyk hyB hg5
      obtain ⟨f, hf⟩ : ∃ f, f = rsF J n r := ⟨_, rfl⟩
      rw [← hf]
      cases f
      · have HE := Lib.hid (show rsR J n (r + 1) = rsR J n 3 by rw [rsR_flag hf.symm, rsR_stay (rsR_flag hf.symm) 3 hr])
        rw [HE.out] at hM5
        have HUL := Lib.hid (show lfo o n (rsR J n 3) = unitL Q o n by rw [unitL, HJ.out])
        rw [HUL.out] at hM5
        have HLl := Lib.hid (unitL_len Q o n)
        have HLb := Lib.hid (fun v (hv : v < n) => show nb (unitL Q o n) v ≤ 1200 by
          rw [unitL, nb_lfo _ hv, ← HJ.out]; exact HRl.out 3 _)
        have HUR := Lib.hid (show unitR Q o n = (unitL Q o n).map (· + 7) from rfl)
        obtain ⟨L, hL⟩ : ∃ L, L = unitL Q o n := ⟨_, rfl⟩
        rw [← hL] at hM5 HLl HLb HUR HR
        clear hf hL
        have hsz5 := hU5.size
        have hyB := hB5.two
        have hB5l := hB5.lt
        have hM5l := hM5.lt
        go_wp2
        clear hyB hO5 hX5 hbk5
        go_loopw [35] (fun t wr => ∃ (j : Nat) (B : Option Addr) (d2 : Nat), j ≤ n ∧ t = .int .i64 j ∧ Blk wr gM 3 (natCells L) ∧ Blk wr bM 24 #[.slice (some ⟨gM, 0, none⟩) n n, .slice B j d2] ∧ OwnI wr w5.heap.size B j d2 (ints ((L.take j).map (· + 7))) ∧ Blk wr (w.heap.size + 1) 24 #[.slice none 0 0, .slice none 0 0] ∧ w5.heap.size ≤ wr.heap.size ∧ Below w.heap.size w wr) (fun t _ => n - (intOf t).toNat)
        case atStart => exact ⟨0, none, 0, Nat.zero_le _, rfl, hM5, hB5, by simpa [ints] using OwnI.nil_ w5 w5.heap.size, hbr5, Nat.le_refl _, hU5⟩
        case round =>
          clear hM5 hB5 hbr5 hU5
          obtain ⟨j, B, d2, hj, rfl, hM, hB, hR, hbr, hsz, hb⟩ := hrel
          obtain ⟨wi, rfl⟩ : ∃ wi : World, wi = wr := ⟨_, rfl⟩
          have hyB := hB.two
          by_cases hjn : j < n
          · have hcL := hM.nat (j := j) (by rw [HLl.out]; exact hjn)
            have hyb := HLb.out j hjn
            have HT := Lib.hid (take_snoc7 (L := L) (j := j) (by rw [HLl.out]; exact hjn))
            obtain ⟨y, hy⟩ : ∃ y, y = nb L j := ⟨_, rfl⟩
            rw [← hy] at hcL hyb HT
            clear hy
            have HE7 := Lib.hid (show ints ((L.take (j + 1)).map (· + 7)) = ints ((L.take j).map (· + 7)) ++ [(y : Int) + 7] by rw [HT.out]; simp [ints])
            go_wp2_with (at_builtin; refine wpList_push rfl (.tmp 40) (.tmp 43) rfl ((y : Int) + 7) rfl (hR.alloc (.cells #[.int .i64 ((y : Int) + 7)] 3)) ⟨wi.heap.size, 0, none⟩ rfl (cell_lit rfl) (by omega) (by simp; omega) ?_; intro A7 c7 w7 hR7 hb7 hg7; have hB7 := (hB.alloc (.cells #[.int .i64 ((y : Int) + 7)] 3)).below hb7 hB5l; have hM7 := (hM.alloc (.cells #[.int .i64 ((y : Int) + 7)] 3)).below hb7 hM5l; have hyB7 := hB7.two; have hfB7 := hB7.frozen 1)
            have hbr7 := (hbr.alloc (.cells #[.int .i64 ((y : Int) + 7)] 3)).below hb7 (by omega)
            have hbs := hb.size
            have hb8 : Below w.heap.size w w7 := (hb.alloc hbs (.cells #[.int .i64 ((y : Int) + 7)] 3)).trans (hb7.mono (by omega : w.heap.size ≤ w5.heap.size))
            have hs7 := hb7.size
            simp only [World.size_alloc] at hs7
            go_wp2_with fail
            go_roundw
            case rel => exact ⟨j + 1, A7, c7, by omega, by go_num, hM7.far (hM7.ne_ hB7 (by decide)) _, hB7.set_ 1 _, (by rw [HE7.out]; exact hR7.other_store (i := 1) hB7 (by decide) _), hbr7.far (by simp; omega) _, by simp; omega, hb8.setCell (p := ⟨bM, 1, none⟩) hbMg _⟩
            case measure => simp [intOf]; omega
          · obtain rfl : j = n := by omega
            have f0 := hbr.frozen 0
            have f1 := hbr.frozen 1
            have hyr := hbr.two
            have HRt := Lib.hid (show ints ((L.take j).map (· + 7)) = ints (unitR Q o j) by rw [HUR.out, List.take_of_length_le (by rw [HLl.out]; exact Nat.le_refl _)])
            rw [HRt.out] at hR
            have HRl2 := Lib.hid (unitR_len Q o j)
            have hgMl := hM.own (base := w.heap.size) (n := j) hgw (by rw [natCells_size, HLl.out]) (by unfold maxLen; omega)
            have hL1 : OwnI wi w.heap.size (some ⟨gM, 0, none⟩) j j (ints L) := by unfold OwnI; exact hgMl
            have hfin := ((hbr.set_ 0 (.slice (some ⟨gM, 0, none⟩) j j)).set_ 1 (.slice B j d2)).two
            have hbf := (hb.setCell (p := ⟨w.heap.size + 1, 0, none⟩) (by simp) (.slice (some ⟨gM, 0, none⟩) j j)).setCell (p := ⟨w.heap.size + 1, 1, none⟩) (by simp) (.slice B j d2)
            have hLf := (hL1.other_store (i := 0) hbr (by decide) (.slice (some ⟨gM, 0, none⟩) j j)).other_store (i := 1) (hbr.set_ 0 (.slice (some ⟨gM, 0, none⟩) j j)) (by decide) (.slice B j d2)
            have hRf := (hR.other_store (i := 0) hbr (by decide) (.slice (some ⟨gM, 0, none⟩) j j)).other_store (i := 1) (hbr.set_ 0 (.slice (some ⟨gM, 0, none⟩) j j)) (by decide) (.slice B j d2)
            have hap : ∀ k, (Value.slice (some ⟨gM, 0, none⟩) j j).ownBlock = some k → (Value.slice B j d2).ownBlock ≠ some k := fun k hk e => by
              have h1 := (hR.block k e).1
              have h2 : gM = k := by simpa [Value.ownBlock] using hk
              omega
            go_wp2
            generalize (wi.setCell ⟨w.heap.size + 1, 0, none⟩ (.slice (some ⟨gM, 0, none⟩) j j)).setCell ⟨w.heap.size + 1, 1, none⟩ (.slice B j d2) = Wf at hfin hbf hLf hRf ⊢
            refine bodyPost_ret (v := .tuple #[.agg #[.slice (some ⟨gM, 0, none⟩) j j, .slice B j d2], .bool true]) ?_ rfl ?_
            · simp [results, Try.results54, go_sem, hfin]
            rw [HR.out]
            exact givesTB_of HLl.out HRl2.out hLf (hRf.more (by omega)) hap (Nat.le_refl _) hbf
      · have hr3 : r ≠ 3 := fun e => by subst e; rw [HS3.out] at hf; cases hf
        clear hf
        go_wp2
        go_roundw
        case rel => exact ⟨r + 1, by omega, by go_num, hM5, hB5, hO5, hX5, hbk5, hbr5, hU5⟩
        case measure => simp [intOf]; omega
end Go.Proofs.Ytfodbgogeclifaa
