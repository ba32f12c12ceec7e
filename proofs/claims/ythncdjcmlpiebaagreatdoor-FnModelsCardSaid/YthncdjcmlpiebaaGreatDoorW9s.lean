/- Walks of chapter 9: points that meet all intervals. -/
import Derived.Test.YthncdjcmlpiebaaGreatDoorW9
import Derived.Test.YthncdjcmlpiebaaGreatDoorW9b
import Derived.Test.YthncdjcmlpiebaaGreatDoorW12A
import Derived.Test.YthncdjcmlpiebaaGreatDoorPure9s
import Derived.Deep.LoopGhost
namespace Go.Proofs.YthncdjcmlpiebaaGreatDoor
open Go.RowKit
set_option maxRecDepth 100000 in
theorem within_b {n lo hi : Int} {w : World} {b : Bool} (h : (decide (lo ≤ n) && decide (n ≤ hi)) = b) : Calls Tryz.prog 66 #[.int .i64 n, .int .i64 lo, .int .i64 hi] w fun e w' => e = .returned (.bool b) ∧ w' = w :=
  (within_any n lo hi w).mono fun _ _ k => ⟨by rw [k.1, h], k.2.symm⟩
set_option maxRecDepth 100000 in
set_option maxHeartbeats 1000000 in
theorem stab1_any (A B : Option Addr) (n ca cb bl bm bi i : Nat) (x : Int) (L R : List Int) (w : World) (hR : RI w B n R) (hM : Blk w bm 26 #[.slice A n ca, .slice B n cb]) (hl : Blk w bl 3 #[.int .i64 (L.getD i 0)]) (hi : Blk w bi 3 #[.int .i64 (i : Int)]) (hin : i < n) :
    Calls Tryz.prog 65 #[.int .i64 x, .pointer (some ⟨bl, 0, none⟩), .pointer (some ⟨bm, 0, none⟩), .pointer (some ⟨bi, 0, none⟩)] w fun e w' => e = .returned (.bool (seesP L R i x)) ∧ Below w.heap.size w w' := by
  obtain ⟨b, rfl, _, hc⟩ := hR.at_ hin
  have hy1 := hl.one
  have hy2 := hi.one
  have hym := hM.two
  have HS := Lib.hid (show (decide (L.getD i 0 ≤ x) && decide (x ≤ R.getD i 0)) = seesP L R i x from rfl)
  obtain ⟨l, hle⟩ : ∃ l, l = L.getD i 0 := ⟨_, rfl⟩
  obtain ⟨r, hre⟩ : ∃ r, r = R.getD i 0 := ⟨_, rfl⟩
  rw [← hle] at hy1 HS
  rw [← hre] at hc HS
  obtain ⟨s, hs⟩ : ∃ s, s = seesP L R i x := ⟨_, rfl⟩
  rw [← hs] at HS ⊢
  clear hle hre hs hl hi hM
  go_enter Tryz.func65, Tryz.ntmps65
  go_wp2_with fail
  go_quiet ((go_at_call 66; exact Calls.quiet_of_same (within_b HS.out)))
  go_wp2
  go_ret
  exact ⟨rfl, below_drewN (Below.refl _ _) _⟩
set_option maxRecDepth 100000 in
theorem slContainsFunc_is {f : FuncId} {caps : Array Value} (p : Int → Bool) {b : Bool} {A : Option Addr} {n c : Nat} {xs : List Int} {w : World} (hz : xs.any p = b) (hA : RI w A n xs) (hn : n ≤ 9223372036854775807) (he : EntersF f)
    (hp : ∀ j, j < n → ∀ w', Up w w' → Calls Tryz.prog f (#[.int .i64 (xs.getD j 0)] ++ caps) w' fun e w'' => e = .returned (.bool (p (xs.getD j 0))) ∧ Below w'.heap.size w' w'') :
    Calls Tryz.prog 64 #[.slice A n c, .func (.func f) #[] caps] w fun e w' => e = .returned (.bool b) ∧ Below w.heap.size w w' := by
  subst hz; exact slContainsFunc_any f caps p A n c xs w hA hn he hp
set_option maxRecDepth 100000 in
set_option maxHeartbeats 4000000 in
theorem implStabbingPoints_any (A B : Option Addr) (n m ca cb : Nat) (L R : List Int) (w : World) (hL : RI w A n L) (hR : RI w B m R) (hn : n ≤ 1048576) (hm : m ≤ 1048576) :
    Calls Tryz.prog 11 #[.agg #[.slice A n ca, .slice B m cb]] w (GivesIB (stabOf L R) (isModel L R) w) := by
  rcases Bool.eq_false_or_eq_true (isModel L R) with hg | hg
  rotate_left
  · have Hg := Lib.hid hg
    have HR := Lib.hid (show stabOf L R = [] by rw [stabOf, hg]; rfl)
    rw [HR.out, hg]
    clear hg
    go_enter Tryz.func11, Tryz.ntmps11
    go_wp2_with fail
    refine (implIsModel_is (hL.up (by go_grown)) (hR.up (by go_grown)) hn hm Hg.out).mono ?_
    rintro e w1 ⟨rfl, hb1⟩
    have hU1 : Up w w1 := Up.then_ (by go_grown) hb1
    go_wp2
    go_ret2
    exact givesIB_none (OwnI.nil_ _ _) (Nat.le_refl _) hU1
  · have sp := isModel_spec hg
    have HL := Lib.hid hL.1
    obtain rfl : n = m := by have := hL.1; have := hR.1; omega
    have Hg := Lib.hid hg
    have Hm := Lib.hid fun j (hj : j < n) => mOk_iff.1 (sp.2.2.2 j (by rw [HL.out]; exact hj))
    have h1 : 1 ≤ n := by have := HL.out; omega
    have h7 : n ≤ 7 := by have := HL.out; omega
    have HR := Lib.hid (show stabR L R n 127 [] = stabOf L R by rw [stabOf, if_pos hg, HL.out])
    obtain ⟨S, hS⟩ : ∃ S, S = stabOf L R := ⟨_, rfl⟩
    rw [← hS, hg]
    rw [← hS] at HR
    clear hS sp hg
    have hent := entersF (f := 65) Tryz.func65 rfl rfl
    go_enter Tryz.func11, Tryz.ntmps11
    go_wp2_with fail
    refine (implIsModel_is (hL.up (by go_grown)) (hR.up (by go_grown)) hn hm Hg.out).mono ?_
    rintro e w1 ⟨rfl, hb1⟩
    have hU1 : Up w w1 := Up.then_ (by go_grown) hb1
    replace hL := hL.up hU1
    replace hR := hR.up hU1
    have hbm := (Blk.new w 26 #[.slice A n ca, .slice B n cb]).up hb1
    have hlm := hbm.lt
    have hown0 := OwnI.made (base := w1.heap.size) w1 (Nat.le_refl _)
    have hu0 : unc L R [] n ≤ 127 := by
      have := unc_nil (L := L) (R := R) n
      have := Nat.pow_le_pow_right (n := 2) (by omega) h7
      omega
    obtain ⟨aL, rfl, _, _⟩ := hL.addr (by omega)
    obtain ⟨aR, rfl, _, _⟩ := hR.addr (by omega)
    go_wp2_with fail
    go_loopg [4] (unc L R [] n) (fun g v wr => ∃ (p : List Int) (A' : Option Addr) (c' f : Nat), v = .slice A' p.length c' ∧ OwnI wr w1.heap.size A' p.length c' p ∧ Below w1.heap.size w1 wr ∧ g = unc L R p n ∧ p.length + g ≤ 127 ∧ g ≤ f ∧ Hid (stabR L R n f p = S))
    case atStart => exact ⟨[], _, _, 127, rfl, hown0, by go_grown, rfl, by simp; omega, hu0, HR⟩
    case round =>
      clear hown0
      obtain ⟨p, A', c', f, rfl, hown, hb, hgk, hpl, hgf, hst⟩ := hrel
      obtain ⟨wo, rfl⟩ : ∃ wo : World, wo = wr := ⟨_, rfl⟩
      have Hgk := Lib.hid hgk
      have Hst := Lib.hid hst.out
      clear hgk hst
      have hbo := hbm.up hb
      have hyb := hbo.two
      go_wp2_with fail
      clear hyb
      go_loopw [5, 15] (fun x s wr => ∃ k : Nat, k ≤ n ∧ s = .int .i64 k ∧ x = .int .i64 (nxtK L R p k) ∧ Up wo wr) (fun _ s _ => n - (intOf s).toNat)
      case atStart => exact ⟨0, Nat.zero_le _, rfl, rfl, Up.refl _⟩
      case round =>
        obtain ⟨k, hk, rfl, rfl, hbk⟩ := hrel
        obtain ⟨wi, rfl⟩ : ∃ wi : World, wi = wr := ⟨_, rfl⟩
        by_cases hkn : k < n
        · have hLi := hL.up (Up.then_ hb hbk)
          have hRi := hR.up (Up.then_ hb hbk)
          have hbi := hbo.up hbk
          have hyb := hbi.two
          obtain ⟨_, e, hlaL, hcl⟩ := hLi.at_ hkn
          injection e with e
          subst e
          obtain ⟨z, hz⟩ : ∃ z, z = L.getD k 0 := ⟨_, rfl⟩
          rw [← hz] at hcl
          have hbA := Blk.new wi 3 #[.int .i64 (k : Int)]
          have hbB := Blk.new_at (w := wi.alloc (.cells #[.int .i64 (k : Int)] 3)) (t := 3) (cs := #[.int .i64 z]) (g := wi.heap.size + 1) (by simp)
          obtain ⟨W, hW⟩ : ∃ W, W = (wi.alloc (.cells #[.int .i64 (k : Int)] 3)).alloc (.cells #[.int .i64 z] 3) := ⟨_, rfl⟩
          have hU0 : Up wi W := by rw [hW]; go_grown
          have hbA2 : Blk W wi.heap.size 3 #[.int .i64 (k : Int)] := by rw [hW]; exact hbA.alloc _
          have hbB2 : Blk W (wi.heap.size + 1) 3 #[.int .i64 z] := by rw [hW]; exact hbB
          have P1 : ∀ (j : Nat) (w' : World), Up W w' → j < p.length → Calls Tryz.prog 65 (#[.int .i64 (p.getD j 0)] ++ #[.pointer (some ⟨wi.heap.size + 1, 0, none⟩), .pointer (some ⟨w.heap.size, 0, none⟩), .pointer (some ⟨wi.heap.size, 0, none⟩)]) w' fun e w'' => e = .returned (.bool (seesP L R k (p.getD j 0))) ∧ Below w'.heap.size w' w'' := fun j w' hU' _ =>
            stab1_any (some aL) (some aR) n ca cb _ _ _ k (p.getD j 0) L R w' ((hRi.up hU0).up hU') ((hbi.up hU0).up hU') (by rw [← hz]; exact hbB2.up hU') (hbA2.up hU') hkn
          have HW := Lib.hid hW
          have hownW := hown.up (Up.then_ hbk hU0)
          have hrk := (Hm.out k hkn)
          have hlen := Lib.hid hpl
          have hp9 : p.length ≤ 9223372036854775807 := by omega
          clear hbA hbB hW hz hbB2
          rcases Bool.eq_false_or_eq_true (sees L R p k) with e1 | e1
          · have HN := Lib.hid (show nxtK L R p (k + 1) = nxtK L R p k by rw [nxtK, if_pos e1])
            have E1 := Lib.hid (show p.any (seesP L R k) = true from e1)
            clear e1 hrk
            go_wp2_with fail
            rw [← HW.out]
            refine (slContainsFunc_is (seesP L R k) E1.out hownW.ri hp9 hent (fun j hj w' hU' => P1 j w' hU' hj)).mono ?_
            rintro e w5 ⟨rfl, hb5⟩
            go_wp2
            go_roundw
            case rel => exact ⟨k + 1, by omega, by go_num, by rw [HN.out], Up.then_ hbk (Up.then_ hU0 hb5)⟩
            case measure => simp [intOf]; omega
          · have HN := Lib.hid (show nxtK L R p (k + 1) = min (nxtK L R p k) (R.getD k 0) by rw [nxtK, e1]; rfl)
            have E1 := Lib.hid (show p.any (seesP L R k) = false from e1)
            clear e1
            go_wp2_with fail
            rw [← HW.out]
            refine (slContainsFunc_is (seesP L R k) E1.out hownW.ri hp9 hent (fun j hj w' hU' => P1 j w' hU' hj)).mono ?_
            rintro e w5 ⟨rfl, hb5⟩
            have hyb5 := ((hbi.up hU0).up hb5).two
            have hyk := (hbA2.up hb5).one
            have hRr := (hRi.up hU0).up hb5
            obtain ⟨_, e, _, hcr⟩ := hRr.at_ hkn
            injection e with e
            subst e
            obtain ⟨r, hr⟩ : ∃ r, r = R.getD k 0 := ⟨_, rfl⟩
            rw [← hr] at hcr HN hrk
            clear hr
            obtain ⟨y, hy⟩ : ∃ y, y = nxtK L R p k := ⟨_, rfl⟩
            rw [← hy] at HN
            go_wp2
            go_roundw
            case rel => exact ⟨k + 1, by omega, by go_num, by
              have hmi : (if r < y then r else y) = min y r := by split <;> omega
              rw [HN.out, ← hmi, hy], Up.then_ hbk (Up.then_ hU0 hb5)⟩
            case measure => simp [intOf]; omega
        · obtain ⟨wi, rfl⟩ : ∃ w, w = wi := ⟨_, rfl⟩
          obtain rfl : k = n := by omega
          have hownk := hown.up hbk
          have hbk1 := Up.then_ hb hbk
          by_cases hu : unc L R p k = 0
          · have hq : nxtK L R p k = 100 := by
              rcases nxtK_cases (L := L) (R := R) (p := p) (n := k) (fun j hj => by have := Hm.out j hj; omega) k (Nat.le_refl _) with ⟨h, _⟩ | ⟨i, h1, h2, _⟩
              · exact h
              · rw [unc_zero.1 hu i h1] at h2; cases h2
            have HS := Lib.hid (show p = S from (stabR_end hu).symm.trans Hst.out)
            rw [hq]
            clear hq hu
            go_wp2
            go_ret2
            rw [← HS.out]
            exact ⟨A', c', rfl, hownk.more hU1.size, Up.then_ hU1 hbk1⟩
          · obtain ⟨hq, hless⟩ := unc_less (fun j hj => Hm.out j hj) hu
            obtain ⟨f', hf', hnx⟩ := stabR_next (f := f) hu (by rw [← Hgk.out]; exact hgf)
            have HS := Lib.hid (hnx.symm.trans Hst.out)
            have HL2 := Lib.hid hless
            have hgl : gk = unc L R p k := Hgk.out
            have hg2 : unc L R (p ++ [nxtK L R p k]) k + 1 ≤ gk := by omega
            have HG2 := Lib.hid hg2
            have hfl : unc L R (p ++ [nxtK L R p k]) k ≤ f' := by omega
            have HFL := Lib.hid hfl
            obtain ⟨q, hq2⟩ : ∃ q, q = nxtK L R p k := ⟨_, rfl⟩
            rw [← hq2] at hq HS HL2 HG2 HFL ⊢
            clear hq2 hu hnx hless hgl hg2 hfl
            have hne : (q == 100) = false := by rw [beq_eq_false_iff_ne]; omega
            have hcell := (Blk.new wi 3 #[.int .i64 q]).one
            have hsz := hbk1.size
            go_wp2_with (at_builtin; refine wpList_push rfl (.tmp 35) (.tmp 37) rfl q rfl (hownk.alloc _) ⟨wi.heap.size, 0, none⟩ rfl hcell (by omega) (by simp; omega) ?_; intro A7 c7 w7 hown7 hb7 hg7)
            go_roundg (unc L R (p ++ [q]) k)
            case measure => have := HG2.out; omega
            case rel =>
              have hpl2 : (p ++ [q]).length = p.length + 1 := by simp
              exact ⟨p ++ [q], A7, c7, f', by rw [hpl2], hown7.cast hpl2.symm rfl, (hbk1.alloc hsz _).trans hb7, rfl, by rw [hpl2]; have := HG2.out; omega, HFL.out, HS⟩
end Go.Proofs.YthncdjcmlpiebaaGreatDoor
