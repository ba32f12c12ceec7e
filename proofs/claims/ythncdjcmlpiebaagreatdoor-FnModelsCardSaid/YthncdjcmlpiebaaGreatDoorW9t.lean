/- Walks of chapter 9: the reference's points that meet all intervals. -/
import Derived.Test.YthncdjcmlpiebaaGreatDoorW9s
namespace Go.Proofs.YthncdjcmlpiebaaGreatDoor
open Go.RowKit
set_option maxRecDepth 100000 in
theorem own_at9 {w : World} {base g : Nat} (h : w.heap.size = g) (hb : base ≤ g) : OwnI (w.alloc (.cells #[] 3)) base (some ⟨g, 0, none⟩) 0 0 [] := by subst h; exact OwnI.made w hb
set_option maxRecDepth 100000 in
theorem specPointsCovered_is {A B : Option Addr} {n m ca cb : Nat} {L R : List Int} {x : Int} {w : World} (hL : RI w A n L) (hR : RI w B m R) (hn : n ≤ 1048576) (hm : m ≤ 1048576) (h : isModel L R = true) (hl : L.length = n) :
    Calls Tryz.prog 31 #[.agg #[.slice A n ca, .slice B m cb], .int .i64 x] w fun e w' => e = .returned (.int .i64 ((pcK L R x n : Nat) : Int)) ∧ Below w.heap.size w w' :=
  (specPointsCovered_any A B n m ca cb L R x w hL hR hn hm).mono fun _ _ k => ⟨by rw [k.1, pointsCovered, if_pos h, hl], k.2⟩
set_option maxRecDepth 100000 in
set_option maxHeartbeats 4000000 in
theorem specStabbingPoints_any (A B : Option Addr) (n m ca cb : Nat) (L R : List Int) (w : World) (hL : RI w A n L) (hR : RI w B m R) (hn : n ≤ 1048576) (hm : m ≤ 1048576) :
    Calls Tryz.prog 12 #[.agg #[.slice A n ca, .slice B m cb]] w (GivesIB (stabOf L R) (isModel L R) w) := by
  rcases Bool.eq_false_or_eq_true (isModel L R) with hg | hg
  rotate_left
  · have Hg := Lib.hid hg
    have HR := Lib.hid (show stabOf L R = [] by rw [stabOf, hg]; rfl)
    rw [HR.out, hg]
    clear hg
    go_enter Tryz.func12, Tryz.ntmps12
    go_wp2_with fail
    refine (specIsModel_is (hL.up (by go_grown)) (hR.up (by go_grown)) hn hm Hg.out).mono ?_
    rintro e w1 ⟨rfl, hb1⟩
    have hU1 : Up w w1 := Up.then_ (by go_grown) hb1
    have hown0 := ((own_at9 (w := w.alloc (.cells #[.slice A n ca, .slice B m cb] 26)) (base := w.heap.size) (g := w.heap.size + 1) (by simp) (by omega)).up hb1)
    go_wp2
    go_ret2
    exact givesIB_none hown0 (Nat.le_refl _) hU1
  · have sp := isModel_spec hg
    have HL := Lib.hid hL.1
    obtain rfl : n = m := by have := hL.1; have := hR.1; omega
    have Hg := Lib.hid hg
    have Hm := Lib.hid fun j (hj : j < n) => mOk_iff.1 (sp.2.2.2 j (by rw [HL.out]; exact hj))
    have h1 : 1 ≤ n := by have := HL.out; omega
    have h7 : n ≤ 7 := by have := HL.out; omega
    have HR := Lib.hid (show stabR L R n 127 [] = stabOf L R by rw [stabOf, if_pos hg, HL.out])
    obtain ⟨S, hS⟩ : ∃ S, S = stabOf L R := ⟨_, rfl⟩
    rw [← hS, hg]
    rw [← hS] at HR
    clear hS sp hg
    have hpp := p2_le h7
    have hp1 := p2_pos n
    have hsh := shl_p2 (k := n) (by omega)
    go_enter Tryz.func12, Tryz.ntmps12
    have hLw := Lib.hid hL
    have hRw := Lib.hid hR
    go_wp2_with fail
    refine (specIsModel_is (hL.up (by go_grown)) (hR.up (by go_grown)) hn hm Hg.out).mono ?_
    rintro e w1 ⟨rfl, hb1⟩
    have hU1 : Up w w1 := Up.then_ (by go_grown) hb1
    replace hL := hL.up hU1
    replace hR := hR.up hU1
    have hbm := ((Blk.new w 26 #[.slice A n ca, .slice B n cb]).alloc (.cells #[] 3)).up hb1
    have hown0 := ((own_at9 (w := w.alloc (.cells #[.slice A n ca, .slice B n cb] 26)) (base := w.heap.size + 1) (g := w.heap.size + 1) (by simp) (by omega)).up hb1)
    have hu0 : unc L R [] n = p2 n - 1 := unc_nil n
    have Hu0 := Lib.hid hu0
    obtain ⟨aL, rfl, _, _⟩ := hL.addr (by omega)
    obtain ⟨aR, rfl, _, _⟩ := hR.addr (by omega)
    have hyb := hbm.two
    have hsz1 : w.heap.size + 1 ≤ w1.heap.size := by have := hbm.lt; omega
    go_wp2_with fail
    clear hsh hyb hu0
    go_loopw [4, 5] (fun s u wr => ∃ (p : List Int) (A' : Option Addr) (c' f : Nat), s = .slice A' p.length c' ∧ u = .int .i64 (unc L R p n) ∧ OwnI wr (w.heap.size + 1) A' p.length c' p ∧ Below (w.heap.size + 1) w1 wr ∧ p.length + unc L R p n ≤ 127 ∧ unc L R p n ≤ f ∧ Hid (stabR L R n f p = S)) (fun _ u _ => (intOf u).toNat)
    case atStart => exact ⟨[], _, _, 127, rfl, by rw [Hu0.out]; go_num, hown0, Below.refl _ _, by rw [Hu0.out]; simp; omega, by rw [Hu0.out]; omega, HR⟩
    case round =>
      clear hown0 hL hR
      obtain ⟨p, A', c', f, rfl, rfl, hown, hb, hpl, hgf, hst⟩ := hrel
      obtain ⟨wo, rfl⟩ : ∃ wo : World, wo = wr := ⟨_, rfl⟩
      have hUo : Up w wo := hU1.trans (hb.mono (by omega))
      have hL := hLw.out.up hUo
      have hR := hRw.out.up hUo
      have hbo := hbm.below hb (by omega)
      have hyb := hbo.two
      have Hst := Lib.hid hst.out
      have hut := unc_lt L R p n
      have HU := Lib.hid (fun k hk => bestR_nxt (L := L) (R := R) (p := p) (n := n) (fun j hj => by have := Hm.out j hj; omega) k hk)
      have Hbit := Lib.hid (fun i => testBit_unc L R p i n)
      have Hle := Lib.hid (fun h => unc_less (L := L) (R := R) (p := p) (n := n) (fun j hj => Hm.out j hj) h)
      have Hnx := Lib.hid (fun h => stabR_next (L := L) (R := R) (p := p) (n := n) (f := f) h hgf)
      have Hend := Lib.hid (fun h => stabR_end (L := L) (R := R) (p := p) (n := n) (f := f) h)
      have Hsn := Lib.hid (fun q => unc_snoc L R p q n)
      have hU7 : unc L R p n < 128 := Nat.lt_of_lt_of_le hut (Nat.pow_le_pow_right (n := 2) (by omega) h7)
      obtain ⟨U, hU⟩ : ∃ U, U = unc L R p n := ⟨_, rfl⟩
      rw [← hU] at hpl hgf hut HU Hbit Hle Hnx Hend Hsn hU7
      rw [← hU]
      clear hst
      by_cases hU0 : U = 0
      · have HS := Lib.hid (show p = S from (Hend.out hU0).symm.trans Hst.out)
        subst hU0
        clear hU
        go_wp2
        go_ret2
        rw [← HS.out]
        exact ⟨A', c', rfl, hown.more (by omega), hUo⟩
      · have hUp : 0 < U := by omega
        clear hU
        go_wp2_with fail
        go_loop [6, 7] (fun x s => ∃ k : Nat, k ≤ n ∧ s = .int .i64 k ∧ x = .int .i64 (bestR R U k)) (fun _ s => n - (intOf s).toNat)
        case atStart => exact ⟨0, Nat.zero_le _, rfl, rfl⟩
        case round =>
          obtain ⟨k, hk, rfl, rfl⟩ := hrel
          by_cases hkn : k < n
          · obtain ⟨_, e, _, hcr⟩ := hR.at_ hkn
            injection e with e
            subst e
            have HB := Lib.hid (show bestR R U (k + 1) = if U.testBit k = true ∧ (bestR R U k < 0 ∨ R.getD k 0 < bestR R U k) then R.getD k 0 else bestR R U k from rfl)
            obtain ⟨r, hr⟩ : ∃ r, r = R.getD k 0 := ⟨_, rfl⟩
            rw [← hr] at hcr HB
            clear hr
            obtain ⟨y, hy⟩ : ∃ y, y = bestR R U k := ⟨_, rfl⟩
            rw [← hy] at HB ⊢
            clear hy
            have hbit := bit_one U k (by omega)
            rcases Bool.eq_false_or_eq_true (U.testBit k) with e1 | e1
            · rw [e1] at hbit
              by_cases hy0 : y < 0
              · have HN := Lib.hid (show bestR R U (k + 1) = r by rw [HB.out, if_pos ⟨e1, .inl hy0⟩])
                clear e1
                go_wp2
                go_round
                case rel => exact ⟨k + 1, by omega, by go_num, by rw [HN.out]⟩
                case measure => simp [intOf]; omega
              · by_cases hry : r < y
                · have HN := Lib.hid (show bestR R U (k + 1) = r by rw [HB.out, if_pos ⟨e1, .inr hry⟩])
                  clear e1
                  go_wp2
                  go_round
                  case rel => exact ⟨k + 1, by omega, by go_num, by rw [HN.out]⟩
                  case measure => simp [intOf]; omega
                · have HN := Lib.hid (show bestR R U (k + 1) = y by rw [HB.out, if_neg fun h => h.2.elim hy0 hry])
                  clear e1
                  go_wp2
                  go_round
                  case rel => exact ⟨k + 1, by omega, by go_num, by rw [HN.out]⟩
                  case measure => simp [intOf]; omega
            · rw [e1] at hbit
              have HN := Lib.hid (show bestR R U (k + 1) = y by rw [HB.out, if_neg fun h => by rw [e1] at h; exact Bool.false_ne_true h.1])
              clear e1
              go_wp2
              go_round
              case rel => exact ⟨k + 1, by omega, by go_num, by rw [HN.out]⟩
              case measure => simp [intOf]; omega
          · obtain rfl : k = n := by omega
            obtain ⟨hq, hless⟩ := Hle.out hU0
            obtain ⟨f', hf', hnx⟩ := Hnx.out hU0
            have HS := Lib.hid (hnx.symm.trans Hst.out)
            have HBq := Lib.hid (show bestR R U k = nxtK L R p k by rw [HU.out k (Nat.le_refl _), if_neg (by omega)])
            rw [HBq.out]
            have hs1 := Hsn.out (nxtK L R p k)
            obtain ⟨q, hq2⟩ : ∃ q, q = nxtK L R p k := ⟨_, rfl⟩
            rw [← hq2] at hq HS hless hs1 ⊢
            clear hq2 hnx HBq
            have hC7 : pcK L R q k < 128 := Nat.lt_of_lt_of_le (pcK_lt L R q k) (Nat.pow_le_pow_right (n := 2) (by omega) h7)
            have hda := dif_add U (pcK L R q k)
            rw [← hs1] at hda
            have hand := i64_and_nat U (pcK L R q k) (by omega) (by omega)
            have HU2 := Lib.hid hless
            have HS1 := Lib.hid hs1
            obtain ⟨U2, hU2⟩ : ∃ U2, U2 = unc L R (p ++ [q]) k := ⟨_, rfl⟩
            rw [← hU2] at hda HU2
            have HU2e := Lib.hid hU2
            clear hs1 hless hU2
            obtain ⟨D, hD⟩ : ∃ D, D = U &&& pcK L R q k := ⟨_, rfl⟩
            rw [← hD] at hda hand
            clear hD
            have hcell := (Blk.new wo 3 #[.int .i64 q]).one
            have hsz := hb.size
            have hsubI : (U : Int) - (D : Int) = (U2 : Int) := by omega
            have hws : wrap64 ((U : Int) - (D : Int)) = (U2 : Int) := by rw [hsubI]; unfold wrap64; omega
            go_wp2_with (first | (at_builtin; refine wpList_push rfl (.tmp 50) (.tmp 52) rfl q rfl (hown.alloc _) ⟨wo.heap.size, 0, none⟩ rfl hcell (by omega) (by simp; omega) ?_; intro A7 c7 w7 hown7 hb7 hg7; have hb8 := (hb.alloc (show w.heap.size + 1 ≤ wo.heap.size by omega) (.cells #[.int .i64 q] 3)).trans hb7; have hU8 := hU1.trans (hb8.mono (show w.heap.size ≤ w.heap.size + 1 by omega)); have hyb8 := (hbm.below hb8 (show w.heap.size < w.heap.size + 1 by omega)).two) | (go_at_call 31; refine (specPointsCovered_is (hLw.out.up hU8) (hRw.out.up hU8) hn hm Hg.out HL.out).mono ?_; rintro e w9 ⟨rfl, hb9⟩))
            go_roundw
            case rel =>
              have hpl2 : (p ++ [q]).length = p.length + 1 := by simp
              have hsz7 : w.heap.size + 1 ≤ w7.heap.size := by have := hb8.size; omega
              exact ⟨p ++ [q], A7, c7, f', by rw [hpl2], by rw [← HU2e.out], (hown7.up hb9).cast hpl2.symm rfl, hb8.trans (hb9.mono hsz7), by rw [hpl2, ← HU2e.out]; have := HU2.out; omega, by rw [← HU2e.out]; have := HU2.out; omega, HS⟩
            case measure =>
              have := HU2.out
              first | (simp [intOf]; omega) | (simp [intOf, hws]; omega)
end Go.Proofs.YthncdjcmlpiebaaGreatDoor
