/- Walks of chapter 12: raised, the program's. -/
import Derived.Test.YtfodbgogeclifaaW12i
import Derived.Test.YtfodbgogeclifaaPure12u
import Derived.Test.YtfodbgogeclifaaNat
import Derived.Deep.LoopGhost
namespace Go.Proofs.Ytfodbgogeclifaa
open Go.RowKit
/-- Left ends by place, as left ends by vertex. -/
def lfo (o : List Nat) (n : Nat) (x : List Nat) : List Nat := (List.range n).map fun v => nb x (place o v)
theorem lfo_len (o : List Nat) (n : Nat) (x : List Nat) : (lfo o n x).length = n := by simp [lfo]
theorem nb_lfo {o : List Nat} {n v : Nat} (x : List Nat) (h : v < n) : nb (lfo o n x) v = nb x (place o v) := by
  simp [lfo, nb, List.getD, List.getElem?_map, List.getElem?_range h]
theorem lfo_at {o : List Nat} {n i : Nat} (ho : natVerts n o) (hl : o.length = n) (x : List Nat) (h : i < n) : nb (lfo o n x) (nb o i) = nb x i := by
  rw [nb_lfo x (ho.at_ (by omega)), place_nb ho (by omega)]
theorem nb_ext {a b : List Nat} (hl : a.length = b.length) (h : ∀ i, i < a.length → nb a i = nb b i) : a = b := by
  refine List.ext_getElem hl fun i h1 h2 => ?_
  have := h i h1
  simpa [nb, List.getD, List.getElem?_eq_getElem h1, List.getElem?_eq_getElem h2] using this
theorem lfo_set {o : List Nat} {n i : Nat} (ho : natVerts n o) (hl : o.length = n) {x : List Nat} (hx : x.length = n) (h : i < n) (y : Nat) : (lfo o n x).set (nb o i) y = lfo o n (x.set i y) := by
  refine nb_ext (by simp [lfo]) fun v hv => ?_
  rw [List.length_set, lfo_len] at hv
  have hi := ho.at_ (j := i) (by omega)
  have hm := ho.all hl hv
  rw [nb_set' (by rw [lfo_len]; exact hi), nb_lfo _ hv, nb_lfo _ hv, nb_set' (by omega)]
  by_cases e : v = nb o i
  · rw [if_pos e, if_pos (by rw [e, place_nb ho (by omega)])]
  · rw [if_neg e, if_neg fun k => e (by rw [← k, place_at hm])]
section
variable {w : World} {g bL bC v n d : Nat} {L : List Nat} {c : Bool} {z : Int}
theorem raise_no (hL : Blk w bL 22 #[.slice (some ⟨g, 0, none⟩) n d]) (hM : Blk w g 3 (natCells L)) (hv : v < n) (hln : L.length = n) (h : ¬ (nb L v : Int) < z) :
    Calls Try.prog 114 #[.int .i64 v, .int .i64 z, .pointer (some ⟨bL, 0, none⟩), .pointer (some ⟨bC, 0, none⟩)] w fun e w' => e = .returned (.tuple #[]) ∧ w' = w := by
  have hyL := hL.one
  have hc := hM.nat (j := v) (by omega)
  obtain ⟨y, hy⟩ : ∃ y, y = nb L v := ⟨_, rfl⟩
  rw [← hy] at hc h
  clear hy
  go_enter Try.func114, Try.ntmps114
  go_wp2
  go_end0
  exact ⟨rfl, rfl⟩
theorem raise_yes (hL : Blk w bL 22 #[.slice (some ⟨g, 0, none⟩) n d]) (hC : Blk w bC 4 #[.bool c]) (hM : Blk w g 3 (natCells L)) (hv : v < n) (hln : L.length = n) (h : (nb L v : Int) < z) :
    Calls Try.prog 114 #[.int .i64 v, .int .i64 z, .pointer (some ⟨bL, 0, none⟩), .pointer (some ⟨bC, 0, none⟩)] w fun e w' => e = .returned (.tuple #[]) ∧ w' = (w.setCell ⟨g, v, none⟩ (.int .i64 z)).setCell ⟨bC, 0, none⟩ (.bool true) := by
  have hyL := hL.one
  have hc := hM.nat (j := v) (by omega)
  have hfz := hM.frozen v
  have hne := hC.ne_ hM (by decide)
  have hC2 := hC.far (p := ⟨g, v, none⟩) hne (.int .i64 z)
  have hyC := hC2.one
  have hfC := hC2.frozen 0
  obtain ⟨y, hy⟩ : ∃ y, y = nb L v := ⟨_, rfl⟩
  rw [← hy] at hc h
  clear hy
  go_enter Try.func114, Try.ntmps114
  go_wp2
  go_end0
  exact ⟨rfl, rfl⟩
end
/-- What stands while ends are raised. -/
structure RzInv (W : World) (A : Option Addr) (gM bG bL bC n ca d : Nat) (o : List Nat) (wr : World) (s : List Nat × Bool) : Prop where
  len : s.1.length = n
  m : Blk wr gM 3 (natCells (lfo o n s.1))
  c : Blk wr bC 4 #[.bool s.2]
  l : Blk wr bL 22 #[.slice (some ⟨gM, 0, none⟩) n d]
  g : Blk wr bG 45 #[.int .i64 n, .slice A n ca]
  gr : W.grownBy wr (some gM)
theorem RzInv.up {W : World} {A : Option Addr} {gM bG bL bC n ca d : Nat} {o : List Nat} {wr w' : World} {s : List Nat × Bool} (I : RzInv W A gM bG bL bC n ca d o wr s) (hb : Below wr.heap.size wr w') : RzInv W A gM bG bL bC n ca d o w' s :=
  ⟨I.len, I.m.up hb, I.c.up hb, I.l.up hb, I.g.up hb, ⟨hb.os.trans I.gr.os, hb.tape.trans I.gr.tape, hb.output.trans I.gr.output, Nat.le_trans I.gr.size hb.size, fun i hi hr => (hb.block i (Nat.lt_of_lt_of_le hi I.gr.size)).trans (I.gr.block i hi hr)⟩⟩
theorem grown_own {a w : World} {row : Option Nat} (h : a.grownBy w row) {p : Addr} (hp : a.heap.size ≤ p.block ∨ row = some p.block) (u : Value) : a.grownBy (w.setCell p u) row :=
  ⟨h.os, h.tape, h.output, by simpa using h.size, fun i hi hr => (Below.heap_setCell w p u i (fun e => by
    rcases hp with hp | hp
    · omega
    · exact hr (by rw [hp, e]))).trans (h.block i hi hr)⟩
theorem raise_up {W : World} {A : Option Addr} {gM bG bL bC n ca d i l : Nat} {o : List Nat} {wr : World} {s : List Nat × Bool} {z : Int} (I : RzInv W A gM bG bL bC n ca d o wr s) (ho : natVerts n o) (hl : o.length = n) (hi : i < n)
    (hbC : W.heap.size ≤ bC) (hz : z = (l : Int) ∨ (z ≤ 0 ∧ l = 0)) :
    Calls Try.prog 114 #[.int .i64 (nb o i), .int .i64 z, .pointer (some ⟨bL, 0, none⟩), .pointer (some ⟨bC, 0, none⟩)] wr fun e w' => e = .returned (.tuple #[]) ∧ RzInv W A gM bG bL bC n ca d o w' (upF s i l) := by
  have hv := ho.at_ (j := i) (by omega)
  have hat := lfo_at ho hl s.1 hi
  by_cases hlt : nb s.1 i < l
  · obtain rfl : z = (l : Int) := by omega
    refine (raise_yes I.l I.c I.m hv (lfo_len o n s.1) (by rw [hat]; omega)).mono ?_
    rintro e w' ⟨rfl, rfl⟩
    refine ⟨rfl, ?_⟩
    rw [upF, if_pos hlt]
    have hcm := I.c.ne_ I.m (by decide)
    have hlm : bL ≠ gM := fun e => by
      have h1 := I.l
      rw [e] at h1
      have h2 := h1.symm.trans I.m
      simp only [Option.some.injEq, Obj.cells.injEq] at h2
      exact absurd h2.2.1 (by decide)
    have hgm := I.g.ne_ I.m (by decide)
    have hlc := I.l.ne_ I.c (by decide)
    have hgc := I.g.ne_ I.c (by decide)
    have h1 := I.m.set_ (nb o i) (.int .i64 (l : Int))
    rw [natCells_set, lfo_set ho hl I.len hi] at h1
    refine ⟨by simp [I.len], h1.far (p := ⟨bC, 0, none⟩) (fun e => hcm e.symm) _, ?_, (I.l.far (p := ⟨gM, _, none⟩) hlm _).far (p := ⟨bC, 0, none⟩) hlc _, (I.g.far (p := ⟨gM, _, none⟩) hgm _).far (p := ⟨bC, 0, none⟩) hgc _, grown_own (grown_own I.gr (.inr rfl) _) (.inl hbC) _⟩
    have := (I.c.far (p := ⟨gM, nb o i, none⟩) hcm (.int .i64 (l : Int))).set_ 0 (.bool true)
    simpa using this
  · refine (raise_no I.l I.m hv (lfo_len o n s.1) (by rw [hat]; omega)).mono ?_
    rintro e w' ⟨rfl, rfl⟩
    exact ⟨rfl, by rw [upF, if_neg hlt]; exact I⟩
theorem upF_le {s : List Nat × Bool} {v l M : Nat} (h : ∀ i, nb s.1 i ≤ M) (hl : l ≤ M) : ∀ i, nb (upF s v l).1 i ≤ M := fun i => by
  unfold upF
  split
  · simp only
    rcases Nat.lt_or_ge v s.1.length with hv | hv
    · rw [nb_set' hv]
      split
      · exact hl
      · exact h i
    · rw [List.set_eq_of_length_le hv]; exact h i
  · exact h i
theorem rsA_le {J : Nat → Nat → Bool} {s : List Nat × Bool} {k i M : Nat} (h : ∀ i, nb s.1 i ≤ M) : ∀ j, nb (rsA J s k i).1 j ≤ M + 8 := by
  unfold rsA
  split
  · exact upF_le (fun j => by have := h j; omega) (by have := h k; omega)
  · exact upF_le (fun j => by have := h j; omega) (by have := h i; omega)
theorem rsB_le {s : List Nat × Bool} {k i M : Nat} (h : ∀ i, nb s.1 i ≤ M) : ∀ j, nb (rsB s k i).1 j ≤ M := by
  unfold rsB
  split
  · exact upF_le h (h i)
  · exact h
theorem rsI_le {J : Nat → Nat → Bool} {s : List Nat × Bool} {k M : Nat} (h : ∀ i, nb s.1 i ≤ M) : ∀ i j, nb (rsI J s k i).1 j ≤ M + 8 * i
  | 0, j => by have := h j; rw [rsI]; omega
  | i + 1, j => by
    rw [rsI]
    exact Nat.le_trans (rsB_le (rsA_le (rsI_le h i)) j) (by omega)
theorem rsK_le {J : Nat → Nat → Bool} {s : List Nat × Bool} {M : Nat} (h : ∀ i, nb s.1 i ≤ M) : ∀ k, k ≤ 7 → ∀ j, nb (rsK J s k).1 j ≤ M + 56 * k
  | 0, _, j => by have := h j; rw [rsK]; omega
  | k + 1, hk, j => by
    rw [rsK]
    have := rsI_le (J := J) (s := rsK J s k) (k := k) (rsK_le (J := J) h k (by omega)) k j
    omega
set_option maxRecDepth 100000 in
set_option maxHeartbeats 1000000 in
theorem raised_any (A B : Option Addr) (n ca cb gM d M : Nat) (Q o x : List Nat) (w : World) (hX : RI w A n (ints Q)) (hO : RI w B n (ints o)) (h : GOk n Q) (ho : natVerts n o) (hl : o.length = n) (hx : x.length = n) (hcb : n ≤ cb) (_hcb2 : cb ≤ 9223372036854775807)
    (hM : Blk w gM 3 (natCells (lfo o n x))) (hb : ∀ i, nb x i ≤ M) (hMM : M ≤ 100000) (hXne : ∀ ad, A = some ad → ad.block ≠ gM) (hOne : ∀ ad, B = some ad → ad.block ≠ gM) :
    Calls Try.prog 93 #[.agg #[.int .i64 n, .slice A n ca], .slice B n cb, .slice (some ⟨gM, 0, none⟩) n d] w fun e w' => e = .returned (.bool (rsK (fun i k => edge Q (nb o i) (nb o k)) (x, false) n).2) ∧ Blk w' gM 3 (natCells (lfo o n (rsK (fun i k => edge Q (nb o i) (nb o k)) (x, false) n).1)) ∧ w.grownBy w' (some gM) := by
  have h7 := h.le
  obtain ⟨aa, rfl, _, _⟩ := hX.addr h.pos
  obtain ⟨ab, rfl, _, _⟩ := hO.addr h.pos
  obtain ⟨J, hJ⟩ : ∃ J : Nat → Nat → Bool, J = fun i k => edge Q (nb o i) (nb o k) := ⟨_, rfl⟩
  have HJ := Lib.hid hJ
  rw [← hJ]
  have HLe := Lib.hid fun k (hk : k ≤ 7) => rsK_le (J := J) (s := (x, false)) hb k hk
  have hU : Up w (((w.alloc (.cells #[.int .i64 n, .slice (some aa) n ca] 45)).alloc (.cells #[.slice (some ⟨gM, 0, none⟩) n d] 22)).alloc (.cells #[.bool false] 4)) := by go_grown
  have I0 : RzInv w (some aa) gM w.heap.size (w.heap.size + 1) (w.heap.size + 1 + 1) n ca d o (((w.alloc (.cells #[.int .i64 n, .slice (some aa) n ca] 45)).alloc (.cells #[.slice (some ⟨gM, 0, none⟩) n d] 22)).alloc (.cells #[.bool false] 4)) (x, false) :=
    ⟨hx, hM.up hU, Blk.new_at (by simp), (Blk.new_at (w := w.alloc (.cells #[.int .i64 n, .slice (some aa) n ca] 45)) (g := w.heap.size + 1) (by simp)).alloc _, ((Blk.new w _ _).alloc _).alloc _, only_of_below hU _⟩
  obtain ⟨W, hW⟩ : ∃ W, W = ((w.alloc (.cells #[.int .i64 n, .slice (some aa) n ca] 45)).alloc (.cells #[.slice (some ⟨gM, 0, none⟩) n d] 22)).alloc (.cells #[.bool false] 4) := ⟨_, rfl⟩
  rw [← hW] at I0
  have HXw := Lib.hid hX
  have HOw := Lib.hid hO
  have HH := Lib.hid h
  have HOv := Lib.hid ho
  have HOl := Lib.hid hl
  clear hX hO hM hU hb hJ hx
  go_enter Try.func93, Try.ntmps93
  go_wp2_with fail
  rw [← hW]
  clear hW
  go_loopw [16] (fun t wr => ∃ (k : Nat) (s : List Nat × Bool), k ≤ n ∧ t = .int .i64 k ∧ Hid (s = rsK J (x, false) k) ∧ RzInv w (some aa) gM w.heap.size (w.heap.size + 1) (w.heap.size + 1 + 1) n ca d o wr s) (fun t _ => n - (intOf t).toNat)
  case atStart => exact ⟨0, (x, false), Nat.zero_le _, rfl, rfl, I0⟩
  case round =>
    clear I0
    obtain ⟨k, s0, hk, rfl, hs0, I⟩ := hrel
    obtain ⟨wo, rfl⟩ : ∃ wo : World, wo = wr := ⟨_, rfl⟩
    by_cases hkn : k < n
    · have HL0 := Lib.hid (HLe.out k (by omega))
      have hcw := (HOw.out.grown I.gr (fun ad e => by intro e2; injection e2 with e2; exact hOne ad e e2)).nbs hkn
      have hwn := HOv.out.at_ (j := k) (by rw [HOl.out]; exact hkn)
      obtain ⟨vw, hvw⟩ : ∃ vw, vw = nb o k := ⟨_, rfl⟩
      have HVw := Lib.hid hvw
      rw [← hvw] at hcw hwn
      clear hvw
      go_wp2
      go_loopw [25] (fun t wr => ∃ (i : Nat) (s : List Nat × Bool), i ≤ k ∧ t = .int .i64 i ∧ Hid (s = rsI J s0 k i) ∧ RzInv w (some aa) gM w.heap.size (w.heap.size + 1) (w.heap.size + 1 + 1) n ca d o wr s) (fun t _ => k - (intOf t).toNat)
      case atStart => exact ⟨0, s0, Nat.zero_le _, rfl, rfl, I⟩
      case round =>
        clear I hcw
        obtain ⟨i, s, hi, rfl, hs, I⟩ := hrel
        obtain ⟨wi, rfl⟩ : ∃ wi : World, wi = wr := ⟨_, rfl⟩
        by_cases hik : i < k
        · have hin : i < n := by omega
          have hcv := (HOw.out.grown I.gr (fun ad e => by intro e2; injection e2 with e2; exact hOne ad e e2)).nbs hin
          have hvn := HOv.out.at_ (j := i) (by rw [HOl.out]; exact hin)
          have hLs := Lib.hid (fun j => show nb s.1 j ≤ 200000 by
            rw [hs.out]
            have h1 := rsI_le (J := J) (s := s0) (k := k) (M := M + 56 * k) (by rw [hs0.out]; exact HL0.out) i j
            omega)
          have hcg := (HXw.out.grown I.gr (fun ad e => by intro e2; injection e2 with e2; exact hXne ad e e2)).nbs hvn
          have hcl1 := I.m.nat (j := nb o i) (by rw [lfo_len]; exact hvn)
          have hcl2 := I.m.nat (j := nb o k) (by rw [lfo_len, ← HVw.out]; exact hwn)
          rw [lfo_at HOv.out HOl.out s.1 hin] at hcl1
          rw [lfo_at HOv.out HOl.out s.1 hkn, ← HVw.out] at hcl2
          have hJe := Lib.hid (show J i k = (nb Q (nb o i)).testBit vw by rw [HJ.out, HVw.out]; rfl)
          have HSt := Lib.hid (show rsI J s0 k (i + 1) = rsB (rsA J s k i) k i by rw [rsI, ← hs.out])
          have hb1 := hLs.out i
          have hb2 := hLs.out k
          have hyg := I.g.two
          have hyl := I.l.one
          obtain ⟨vv, hvv⟩ : ∃ vv, vv = nb o i := ⟨_, rfl⟩
          have HVv := Lib.hid hvv
          rw [← hvv] at hcv hvn hcg hcl1 hJe
          clear hvv
          obtain ⟨x1, hx1⟩ : ∃ x1, x1 = nb s.1 i := ⟨_, rfl⟩
          obtain ⟨x2, hx2⟩ : ∃ x2, x2 = nb s.1 k := ⟨_, rfl⟩
          rw [← hx1] at hcl1 hb1
          rw [← hx2] at hcl2 hb2
          have HX1 := Lib.hid hx1
          have HX2 := Lib.hid hx2
          clear hx1 hx2
          have h7r := HH.out.nb7 vv
          obtain ⟨rv, hrv⟩ : ∃ rv, rv = nb Q vv := ⟨_, rfl⟩
          rw [← hrv] at hcg hJe h7r
          clear hrv
          obtain ⟨f, hf⟩ : ∃ f, f = rv.testBit vw := ⟨_, rfl⟩
          have HF := Lib.hid hf.symm
          have HJf := Lib.hid (hJe.out.trans hf.symm)
          clear hf
          cases f
          · have HA := Lib.hid (show upF s k (x1 + 8) = rsA J s k i by rw [rsA, HJf.out]; simp only [Bool.false_eq_true, if_false]; rw [HX1.out])
            go_wp2_with (go_at_call 63; refine (has_eq (by omega) (by omega) HF.out).mono ?_; rintro e w' ⟨rfl, rfl⟩)
            have hcall := raise_up (i := k) (l := x1 + 8) (z := (x1 : Int) + 7 + 1) I HOv.out HOl.out (by omega) (by omega) (.inl (by omega))
            rw [← HVw.out] at hcall
            refine hcall.mono ?_
            rintro e w2 ⟨rfl, I2⟩
            clear hcall hcv hcg hcl1 hcl2 hyg hyl I
            rw [HA.out] at I2
            have hyl2 := I2.l.one
            by_cases hlast : i + 1 = k
            · have hcl3 := I2.m.nat (j := nb o i) (by rw [lfo_len, ← HVv.out]; exact hvn)
              rw [lfo_at HOv.out HOl.out _ hin, ← HVv.out] at hcl3
              obtain ⟨x3, hx3⟩ : ∃ x3, x3 = nb (rsA J s k i).1 i := ⟨_, rfl⟩
              have HX3 := Lib.hid hx3
              have hx3b : x3 ≤ 300000 := by
                have := rsA_le (J := J) (s := s) (k := k) (i := i) (M := 200000) hLs.out i
                omega
              rw [← hx3] at hcl3
              clear hx3
              have HB := Lib.hid (show upF (rsA J s k i) k x3 = rsI J s0 k (i + 1) by rw [HSt.out, rsB, if_pos hlast, HX3.out])
              have hq : ((i : Int) == (k : Int) - 1) = true := by rw [beq_iff_eq]; omega
              go_wp2_with fail
              have hcall := raise_up (i := k) (l := x3) (z := (x3 : Int)) I2 HOv.out HOl.out hkn (by omega) (.inl rfl)
              rw [← HVw.out] at hcall
              refine hcall.mono ?_
              rintro e w3 ⟨rfl, I3⟩
              clear hcall hcl3 hyl2 I2
              rw [HB.out] at I3
              go_wp2
              go_roundw
              case rel => exact ⟨i + 1, _, by omega, by go_num, rfl, I3⟩
              case measure => simp [intOf]; omega
            · have HB := Lib.hid (show rsA J s k i = rsI J s0 k (i + 1) by rw [HSt.out, rsB, if_neg hlast])
              have hq : ((i : Int) == (k : Int) - 1) = false := by rw [beq_eq_false_iff_ne]; omega
              rw [HB.out] at I2
              clear hyl2
              go_wp2
              go_roundw
              case rel => exact ⟨i + 1, _, by omega, by go_num, rfl, I2⟩
              case measure => simp [intOf]; omega
          · have HA := Lib.hid (show upF s i (x2 - 7) = rsA J s k i by rw [rsA, HJf.out]; simp only [if_true]; rw [HX2.out])
            go_wp2_with (go_at_call 63; refine (has_eq (by omega) (by omega) HF.out).mono ?_; rintro e w' ⟨rfl, rfl⟩)
            have hcall := raise_up (i := i) (l := x2 - 7) (z := (x2 : Int) - 7) I HOv.out HOl.out (by omega) (by omega) (by omega)
            rw [← HVv.out] at hcall
            refine hcall.mono ?_
            rintro e w2 ⟨rfl, I2⟩
            clear hcall hcv hcg hcl1 hcl2 hyg hyl I
            rw [HA.out] at I2
            have hyl2 := I2.l.one
            by_cases hlast : i + 1 = k
            · have hcl3 := I2.m.nat (j := nb o i) (by rw [lfo_len, ← HVv.out]; exact hvn)
              rw [lfo_at HOv.out HOl.out _ hin, ← HVv.out] at hcl3
              obtain ⟨x3, hx3⟩ : ∃ x3, x3 = nb (rsA J s k i).1 i := ⟨_, rfl⟩
              have HX3 := Lib.hid hx3
              have hx3b : x3 ≤ 300000 := by
                have := rsA_le (J := J) (s := s) (k := k) (i := i) (M := 200000) hLs.out i
                omega
              rw [← hx3] at hcl3
              clear hx3
              have HB := Lib.hid (show upF (rsA J s k i) k x3 = rsI J s0 k (i + 1) by rw [HSt.out, rsB, if_pos hlast, HX3.out])
              have hq : ((i : Int) == (k : Int) - 1) = true := by rw [beq_iff_eq]; omega
              go_wp2_with fail
              have hcall := raise_up (i := k) (l := x3) (z := (x3 : Int)) I2 HOv.out HOl.out hkn (by omega) (.inl rfl)
              rw [← HVw.out] at hcall
              refine hcall.mono ?_
              rintro e w3 ⟨rfl, I3⟩
              clear hcall hcl3 hyl2 I2
              rw [HB.out] at I3
              go_wp2
              go_roundw
              case rel => exact ⟨i + 1, _, by omega, by go_num, rfl, I3⟩
              case measure => simp [intOf]; omega
            · have HB := Lib.hid (show rsA J s k i = rsI J s0 k (i + 1) by rw [HSt.out, rsB, if_neg hlast])
              have hq : ((i : Int) == (k : Int) - 1) = false := by rw [beq_eq_false_iff_ne]; omega
              rw [HB.out] at I2
              clear hyl2
              go_wp2
              go_roundw
              case rel => exact ⟨i + 1, _, by omega, by go_num, rfl, I2⟩
              case measure => simp [intOf]; omega
        · obtain rfl : i = k := by omega
          have HN := Lib.hid (show s = rsK J (x, false) (i + 1) by rw [rsK, ← hs0.out]; exact hs.out)
          go_wp2
          go_roundw
          case rel => exact ⟨i + 1, s, by omega, by go_num, HN.out, I⟩
          case measure => simp [intOf]; omega
    · obtain rfl : k = n := by omega
      have HS := Lib.hid hs0.out
      have hyc := I.c.one
      obtain ⟨s1, s2⟩ := s0
      go_wp2
      go_ret
      rw [← HS.out]
      exact ⟨rfl, I.m, I.gr⟩
end Go.Proofs.Ytfodbgogeclifaa
