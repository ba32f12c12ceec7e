/- Walks of chapter 8: CliqueTreeOf, the program's. -/
import Derived.Test.YtnaoomchekhcgaaPure8k
import Derived.Test.YtnaoomchekhcgaaApp2
import Derived.Test.YtnaoomchekhcgaaW10f
import Derived.Test.YtnaoomchekhcgaaW10i
import Derived.Test.YtnaoomchekhcgaaGives
namespace Go.Proofs.Ytnaoomchekhcgaa
open Go.RowKit
def ctOf (N : Int) (X : List Int) : List Int × List Int × Bool :=
  if (elimOf N X).isSome then (ints (ctB (maxCliquesOf N X) ((maxCliquesOf N X).length - 1)).1, (ctB (maxCliquesOf N X) ((maxCliquesOf N X).length - 1)).2, true) else ([], [], false)
theorem ctOf_no {N : Int} {X : List Int} (h : (elimOf N X).isSome = false) : ctOf N X = ([], [], false) := by rw [ctOf, h]; rfl
theorem ctOf_yes {N : Int} {X : List Int} (h : (elimOf N X).isSome = true) : ctOf N X = (ints (ctB (maxCliquesOf N X) ((maxCliquesOf N X).length - 1)).1, (ctB (maxCliquesOf N X) ((maxCliquesOf N X).length - 1)).2, true) := by rw [ctOf, if_pos h]
theorem cliques_nodup {N : Int} {X : List Int} (h : (elimOf N X).isSome = true) : (maxCliquesOf N X).Nodup := by
  obtain ⟨n, Q, rfl, rfl, hk, e⟩ := chordal_cases h
  rw [e]; exact maxK_nodup Q n _
theorem ctOf_len (N : Int) (X : List Int) : (ctOf N X).1.length ≤ 128 ∧ (ctOf N X).2.1.length ≤ 128 := by
  rcases Bool.eq_false_or_eq_true (elimOf N X).isSome with e | e
  · have hok := cliques_ok e
    have hs := ctB_spec (cliques_nodup e) (b := 2 ^ 7) (by decide) hok.1 ((maxCliquesOf N X).length - 1) (by have := hok.2.1; omega)
    rw [ctOf_yes e]
    exact ⟨by show (ints _).length ≤ 128; rw [ints_len, hs.1]; have := hok.2; omega, by show (ctB _ _).2.length ≤ 128; rw [hs.2.1]; have := hok.2; omega⟩
  · rw [ctOf_no e]; exact ⟨by simp, by simp⟩
theorem implCount_is {s x : Nat} {w : World} (hs : s < 128) (h : card s = x) : Calls Try.prog 53 #[.int .i64 s] w fun e w' => e = .returned (.int .i64 (x : Nat)) ∧ Below w.heap.size w w' := by
  subst h; exact implCountSet_any s w hs
theorem tB_none {w w' : World} (hb : Below w.heap.size w w') : GivesTB [] [] false w (.returned (.tuple #[.agg #[.slice none 0 0, .slice none 0 0], .bool false])) w' :=
  ⟨none, 0, none, 0, rfl, OwnI.nil_ _ _, OwnI.nil_ _ _, (fun j h => by cases h), hb⟩
set_option maxRecDepth 100000 in
set_option maxHeartbeats 8000000 in
theorem implCliqueTreeOf_any (N : Int) (A : Option Addr) (n c : Nat) (X : List Int) (w : World) (hX : RI w A n X) (hn : n ≤ 9223372036854775807) :
    Calls Try.prog 19 #[.agg #[.int .i64 N, .slice A n c]] w (GivesTB (ctOf N X).1 (ctOf N X).2.1 (ctOf N X).2.2 w) := by
  have hG := (Blk.new w 27 #[.int .i64 N, .slice A n c]).alloc (.cells #[.slice none 0 0, .slice none 0 0] 33)
  have hM : Blk ((w.alloc (.cells #[.int .i64 N, .slice A n c] 27)).alloc (.cells #[.slice none 0 0, .slice none 0 0] 33)) (w.heap.size + 1) 33 #[.slice none 0 0, .slice none 0 0] := Blk.new_at (by simp)
  have hU0 : Up w ((w.alloc (.cells #[.int .i64 N, .slice A n c] 27)).alloc (.cells #[.slice none 0 0, .slice none 0 0] 33)) := by go_grown
  obtain ⟨b, hb⟩ : ∃ b, b = (elimOf N X).isSome := ⟨_, rfl⟩
  have HC := Lib.hid hb.symm
  clear hb
  cases b
  · rw [ctOf_no HC.out]
    go_enter Try.func19, Try.ntmps19
    go_wp2_with fail
    refine (implIsChordal_is (hX.up hU0) hn HC.out).mono ?_
    rintro e w1 ⟨rfl, hb1⟩
    have hU1 : Up w w1 := Up.then_ hU0 hb1
    replace hM := hM.up hb1
    have f0 := hM.frozen 0
    have f1 := hM.frozen 1
    have hy := hM.two
    have hl := hM.lt
    have hfin := ((hM.set_ 0 (.slice none 0 0)).set_ 1 (.slice none 0 0)).two
    have hbf := (hU1.setCell (p := ⟨w.heap.size + 1, 0, none⟩) (by simp) (.slice none 0 0)).setCell (p := ⟨w.heap.size + 1, 1, none⟩) (by simp) (.slice none 0 0)
    clear hG
    go_wp2
    generalize (w1.setCell ⟨w.heap.size + 1, 0, none⟩ (.slice none 0 0)).setCell ⟨w.heap.size + 1, 1, none⟩ (.slice none 0 0) = Wf at hfin hbf ⊢
    refine bodyPost_ret (v := .tuple #[.agg #[.slice none 0 0, .slice none 0 0], .bool false]) ?_ rfl ?_
    · simp [results, Try.results19, go_sem, hfin]
    exact tB_none hbf
  · have hok := cliques_ok HC.out
    have hnd := cliques_nodup HC.out
    rw [ctOf_yes HC.out]
    obtain ⟨L, hL⟩ : ∃ L, L = maxCliquesOf N X := ⟨_, rfl⟩
    rw [← hL] at hok hnd ⊢
    have HL := Lib.hid hL
    clear hL
    obtain ⟨hL7, hL0, hL128⟩ := hok
    have HS := Lib.hid (ctB_spec hnd (b := 2 ^ 7) (by decide) hL7)
    have HB7 := Lib.hid (nb_lt_all (Nat.two_pow_pos 7) hL7)
    clear hnd hL7
    go_enter Try.func19, Try.ntmps19
    go_wp2_with fail
    refine (implIsChordal_is (hX.up hU0) hn HC.out).mono ?_
    rintro e w1 ⟨rfl, hb1⟩
    have hU1 : Up w w1 := Up.then_ hU0 hb1
    replace hM := hM.up hb1
    replace hG := hG.up hb1
    have hyG := hG.two
    have hlG := hG.lt
    clear hU0
    go_wp2_with fail
    refine (implCliques_out (hX.up hU1) hn).mono ?_
    rintro e w2 ⟨AC, cC, rfl, hownC, hb2⟩
    rw [← HL.out] at hownC ⊢
    have hU2 : Up w w2 := Up.then_ hU1 hb2
    replace hM := hM.up hb2
    have hlM : w.heap.size + 1 < w2.heap.size := hM.lt
    obtain ⟨gC, rfl⟩ := hownC.form hL0
    have hriC := hownC.ri
    obtain ⟨aC, e, hc0⟩ := hriC.ints_at hL0
    injection e with e
    subst e
    have hc0' : w2.cell? ⟨gC, 0, none⟩ = some (.int .i64 (nb L 0)) := by rw [add_0_] at hc0; exact hc0
    obtain ⟨x0, hx0⟩ : ∃ x0, x0 = nb L 0 := ⟨_, rfl⟩
    rw [← hx0] at hc0' hc0
    obtain ⟨w3, hw3⟩ : ∃ w3, w3 = ((w2.alloc (.cells #[.int .i64 (x0 : Int)] 3)).alloc (.cells #[.int .i64 (-1)] 3)).alloc (.cells #[.slice (some ⟨w2.heap.size, 0, none⟩) 1 1, .slice (some ⟨w2.heap.size + 1, 0, none⟩) 1 1] 33) := ⟨_, rfl⟩
    have hrA : Blk w3 w2.heap.size 3 #[.int .i64 (x0 : Int)] := by rw [hw3]; exact ((Blk.new w2 _ _).alloc _).alloc _
    have hrB : Blk w3 (w2.heap.size + 1) 3 #[.int .i64 (-1)] := by rw [hw3]; exact (Blk.new_at (by simp)).alloc _
    have hbt : Blk w3 (w2.heap.size + 1 + 1) 33 #[.slice (some ⟨w2.heap.size, 0, none⟩) 1 1, .slice (some ⟨w2.heap.size + 1, 0, none⟩) 1 1] := by rw [hw3]; exact Blk.new_at (by simp)
    have hU3 : Up w2 w3 := by rw [hw3]; go_grown
    have hoA : OwnI w3 w2.heap.size (some ⟨w2.heap.size, 0, none⟩) 1 1 (ints (ctB L 0).1) := by
      have := hrA.own (base := w2.heap.size) (n := 1) (Nat.le_refl _) rfl (by decide)
      unfold OwnI; rw [show (ctB L 0).1 = [x0] by rw [hx0]; rfl]; exact this
    have hoB : OwnI w3 w2.heap.size (some ⟨w2.heap.size + 1, 0, none⟩) 1 1 (ctB L 0).2 := hrB.own (base := w2.heap.size) (n := 1) (by omega) rfl (by decide)
    obtain ⟨bt, hbt'⟩ : ∃ bt, bt = w2.heap.size + 1 + 1 := ⟨_, rfl⟩
    have hbtge : w2.heap.size ≤ bt := by omega
    have hne0 : ∀ j, (Value.slice (some ⟨w2.heap.size, 0, none⟩) 1 1).ownBlock = some j → (Value.slice (some ⟨w2.heap.size + 1, 0, none⟩) 1 1).ownBlock ≠ some j := by
      intro j h1 h2
      simp [Value.ownBlock] at h1 h2
      omega
    clear hx0 hrA hrB hyG hlG hG
    go_wp2_with fail
    rw [← hw3, ← hbt']
    rw [← hbt'] at hbt
    clear hw3 hbt' hc0 hc0'
    go_loopg [6] (L.length - 1) (fun g _ wr => ∃ (m j : Nat) (A1 B1 : Option Addr) (c1 d1 : Nat), Hid (j = m + 1) ∧ j + g = L.length ∧ OwnI wr w2.heap.size A1 j c1 (ints (ctB L m).1) ∧ OwnI wr w2.heap.size B1 j d1 (ctB L m).2 ∧ (∀ i, (Value.slice A1 j c1).ownBlock = some i → (Value.slice B1 j d1).ownBlock ≠ some i) ∧ Blk wr bt 33 #[.slice A1 j c1, .slice B1 j d1] ∧ Below w2.heap.size w2 wr)
    case atStart => exact ⟨0, 1, _, _, 1, 1, rfl, by omega, hoA, hoB, hne0, hbt, hU3⟩
    case round =>
      clear hoA hoB hne0 hbt hU3
      obtain ⟨m, j, A1, B1, c1, d1, hjm, hjg, hoA, hoB, hne, hbt, hb⟩ := hrel
      obtain ⟨wo, rfl⟩ : ∃ wo : World, wo = wr := ⟨_, rfl⟩
      have hbc0 := hbt.two.1
      have hbc1 := hbt.two.2
      have hbl := hbt.lt
      have hj1 : 1 ≤ j := by have := hjm.out; omega
      by_cases hjt : j < L.length
      · have hsp := HS.out m (by have := hjm.out; omega)
        obtain ⟨hl1, hl2, hbg7, s, hs⟩ := hsp
        have hs' := hs (by have := hjm.out; omega)
        obtain ⟨bg, hbg⟩ : ∃ bg, bg = (ctB L m).1 := ⟨_, rfl⟩
        obtain ⟨pr, hpr⟩ : ∃ pr, pr = (ctB L m).2 := ⟨_, rfl⟩
        have HSt := Lib.hid (ctB_step hs')
        have HMem := Lib.hid (allB_mem _ (Nat.le_refl _) s hs')
        rw [← hbg] at hs' hl1 hbg7 hoA HSt HMem
        rw [← hpr] at hoB hl2 HSt
        rw [show bg.length = j by have := hjm.out; omega] at hs' HMem
        have Hs := Lib.hid hs'
        have Hl1 := Lib.hid (show bg.length = j by have := hjm.out; omega)
        have HG7 := Lib.hid (nb_lt_all (Nat.two_pow_pos 7) hbg7)
        clear hs hs' hbg hpr hl1 hl2 hbg7
        obtain ⟨gA, rfl⟩ := hoA.form hj1
        obtain ⟨gB, rfl⟩ := hoB.form hj1
        go_wp2_with fail
        go_loopw [6, 7, 8, 35] (fun z1 z2 z3 i wr => ∃ i' : Nat, i' ≤ j ∧ i = .int .i64 (i' : Nat) ∧ z1 = .int .i64 (cliqB 0 (allB L bg i')) ∧ z2 = .int .i64 (parB 0 (allB L bg i')) ∧ z3 = .int .i64 (mostB (allB L bg i')) ∧ Up wo wr) (fun _ _ _ i _ => j - (intOf i).toNat)
        case atStart => exact ⟨0, Nat.zero_le _, rfl, rfl, rfl, rfl, Up.refl _⟩
        case round =>
          obtain ⟨i, hi, rfl, rfl, rfl, rfl, hbi⟩ := hrel
          obtain ⟨wi, rfl⟩ : ∃ wi : World, wi = wr := ⟨_, rfl⟩
          by_cases hit : i < j
          · have hoAi := hoA.up hbi
            have hbti := hbt.up hbi
            have hRo := Lib.hid (show rowB L bg i (allB L bg i) L.length = allB L bg (i + 1) from rfl)
            obtain ⟨ai, e, hcb⟩ := hoAi.ri.ints_at hit
            injection e with e
            subst e
            rw [add_0_] at hcb
            have hy7 := HG7.out i
            obtain ⟨st, hst⟩ : ∃ st, st = allB L bg i := ⟨_, rfl⟩
            rw [← hst] at hRo ⊢
            clear hst
            obtain ⟨y, hy⟩ : ∃ y, y = nb bg i := ⟨_, rfl⟩
            rw [← hy] at hy7 hcb
            have HY := Lib.hid hy
            clear hy
            go_wp2_with fail
            go_loopw [6, 7, 8, 42] (fun z1 z2 z3 k wr => ∃ k' : Nat, k' ≤ L.length ∧ k = .int .i64 (k' : Nat) ∧ z1 = .int .i64 (cliqB 0 (rowB L bg i st k')) ∧ z2 = .int .i64 (parB 0 (rowB L bg i st k')) ∧ z3 = .int .i64 (mostB (rowB L bg i st k')) ∧ Up wi wr) (fun _ _ _ k _ => L.length - (intOf k).toNat)
            case atStart => exact ⟨0, Nat.zero_le _, rfl, rfl, rfl, rfl, Up.refl _⟩
            case round =>
              clear hcb
              obtain ⟨k, hk, rfl, rfl, rfl, rfl, hbk⟩ := hrel
              obtain ⟨wk, rfl⟩ : ∃ wk : World, wk = wr := ⟨_, rfl⟩
              by_cases hkt : k < L.length
              · have hbk2 := Up.then_ hbi hbk
                have hriCk := hriC.up (hb.trans (hbk2.mono hb.size))
                obtain ⟨ak, e, hck⟩ := hriCk.ints_at hkt
                injection e with e
                subst e
                rw [add_0_] at hck
                have hx7 := HB7.out k
                have hoAk := hoAi.up hbk
                have hbtk := hbti.up hbk
                have hbtc := hbtk.two.1
                have hbtl := hbtk.lt
                have HPI := Lib.hid (show decide (nb L k ∈ bg) = true → rowB L bg i st (k + 1) = rowB L bg i st k from fun h => pickB_in h)
                have HPF := Lib.hid (show ¬ mostB (rowB L bg i st k) < (comm L bg i k : Nat) → rowB L bg i st (k + 1) = rowB L bg i st k from fun h => pickB_few h)
                have HPN := Lib.hid (show decide (nb L k ∈ bg) = false → mostB (rowB L bg i st k) < (comm L bg i k : Nat) → rowB L bg i st (k + 1) = some (nb L k, i, comm L bg i k) from fun h h2 => pickB_new h h2)
                have HCo := Lib.hid (show comm L bg i k = card (nb L k &&& nb bg i) from rfl)
                rw [← HY.out] at HCo
                obtain ⟨cn, hcn⟩ : ∃ cn, cn = comm L bg i k := ⟨_, rfl⟩
                rw [← hcn] at HPF HPN HCo
                obtain ⟨mo, hmo⟩ : ∃ mo, mo = mostB (rowB L bg i st k) := ⟨_, rfl⟩
                obtain ⟨x, hx⟩ : ∃ x, x = nb L k := ⟨_, rfl⟩
                rw [← hx] at hx7 hck HPI HPN HCo
                rw [← hmo] at HPF HPN ⊢
                have Hmo := Lib.hid hmo
                clear hcn hx hmo
                have hand := i64_and7 hx7 hy7
                have hz7 : x &&& y < 128 := Nat.lt_of_le_of_lt Nat.and_le_left hx7
                obtain ⟨z, hz⟩ : ∃ z, z = x &&& y := ⟨_, rfl⟩
                rw [← hz] at hand hz7 HCo
                clear hz
                have hj9 : j ≤ 9223372036854775807 := by omega
                obtain ⟨bh, hbh⟩ : ∃ bh, bh = decide (x ∈ bg) := ⟨_, rfl⟩
                have HH := Lib.hid (show decide ((x : Int) ∈ ints bg) = bh by rw [dec_mem]; exact hbh.symm)
                have HH2 := Lib.hid hbh.symm
                clear hbh
                cases bh
                · by_cases hlt : mo < (cn : Int)
                  · have d1 : decide (mo < (cn : Int)) = true := decide_eq_true hlt
                    have HR := Lib.hid (HPN.out HH2.out hlt)
                    go_wp2_with fail
                    refine (implCount_is hz7 HCo.out.symm).mono ?_
                    rintro e w5 ⟨rfl, hb5⟩
                    have hoA5 := hoAk.up hb5
                    have hbt5 := (hbtk.up hb5).two.1
                    have hbtl5 := (hbtk.up hb5).lt
                    have hU5 := Up.then_ hbk hb5
                    clear hbtc hbtl
                    go_wp2_with fail
                    refine (slContains_is hoA5.ri hj9 HH.out).mono ?_
                    rintro e w6 ⟨rfl, rfl⟩
                    go_wp2
                    go_roundw
                    case rel => exact ⟨k + 1, by omega, by go_num, by rw [HR.out]; rfl, by rw [HR.out]; rfl, by rw [HR.out]; rfl, hU5⟩
                    case measure => simp [intOf]; omega
                  · have d1 : decide (mo < (cn : Int)) = false := decide_eq_false hlt
                    have HR := Lib.hid (HPF.out hlt)
                    go_wp2_with fail
                    refine (implCount_is hz7 HCo.out.symm).mono ?_
                    rintro e w5 ⟨rfl, hb5⟩
                    have hoA5 := hoAk.up hb5
                    have hbt5 := (hbtk.up hb5).two.1
                    have hbtl5 := (hbtk.up hb5).lt
                    have hU5 := Up.then_ hbk hb5
                    clear hbtc hbtl
                    go_wp2_with fail
                    refine (slContains_is hoA5.ri hj9 HH.out).mono ?_
                    rintro e w6 ⟨rfl, rfl⟩
                    go_wp2
                    go_roundw
                    case rel => exact ⟨k + 1, by omega, by go_num, by rw [HR.out], by rw [HR.out], by rw [HR.out, Hmo.out], hU5⟩
                    case measure => simp [intOf]; omega
                · have HR := Lib.hid (HPI.out HH2.out)
                  go_wp2_with fail
                  refine (implCount_is hz7 HCo.out.symm).mono ?_
                  rintro e w5 ⟨rfl, hb5⟩
                  have hoA5 := hoAk.up hb5
                  have hbt5 := (hbtk.up hb5).two.1
                  have hbtl5 := (hbtk.up hb5).lt
                  have hU5 := Up.then_ hbk hb5
                  clear hbtc hbtl
                  go_wp2_with fail
                  refine (slContains_is hoA5.ri hj9 HH.out).mono ?_
                  rintro e w6 ⟨rfl, rfl⟩
                  go_wp2
                  go_roundw
                  case rel => exact ⟨k + 1, by omega, by go_num, by rw [HR.out], by rw [HR.out], by rw [HR.out, Hmo.out], hU5⟩
                  case measure => simp [intOf]; omega
              · obtain rfl : k = L.length := by omega
                rw [hRo.out]
                go_wp2
                go_roundw
                case rel => exact ⟨i + 1, by omega, by go_num, rfl, rfl, rfl, Up.then_ hbi hbk⟩
                case measure => simp [intOf]; omega
          · obtain rfl : i = j := by omega
            rw [Hs.out]
            have hbti := hbt.up hbi
            have hA2 := hoA.up hbi
            have hB2 := hoB.up hbi
            have hym := hbti.two
            have hlm2 := hbti.lt
            have T0 := Two.start (W := wi.drew) (base := w2.heap.size) hA2.drew hB2.drew hne
            have hx0 := hbti.drew.two
            have hx1 := fun o => (hbti.alloc o).two
            have hx2 := fun o o' => ((hbti.alloc o).alloc o').two
            have hna : some bt ≠ (Value.slice (some ⟨gA, 0, none⟩) i c1).ownBlock := Ne.symm (own_blk_ne (e := 3) hA2 hbti (by decide))
            have hnb : some bt ≠ (Value.slice (some ⟨gB, 0, none⟩) i d1).ownBlock := Ne.symm (own_blk_ne (e := 3) hB2 hbti (by decide))
            have hga : ∀ g, wi.heap.size ≤ g → some g ≠ (Value.slice (some ⟨gA, 0, none⟩) i c1).ownBlock := fun g hg e => by have := (hA2.block g e.symm).2; omega
            have hgb : ∀ g, wi.heap.size ≤ g → some g ≠ (Value.slice (some ⟨gB, 0, none⟩) i d1).ownBlock := fun g hg e => by have := (hB2.block g e.symm).2; omega
            have hsz2 : w2.heap.size ≤ wi.heap.size := Nat.le_trans hb.size hbi.size
            obtain ⟨p1, hp1⟩ : ∃ p1 : Nat, p1 = s.1 := ⟨_, rfl⟩
            obtain ⟨p2, hp2⟩ : ∃ p2 : Nat, p2 = s.2.1 := ⟨_, rfl⟩
            have eF := Lib.hid (show List.map (Value.int .i64) (ints bg) ++ [.int .i64 (p1 : Int)] = List.map (Value.int .i64) (ints (ctB L (m + 1)).1) by rw [HSt.out, hp1]; simp [ints])
            have eG := Lib.hid (show List.map (Value.int .i64) pr ++ [.int .i64 (p2 : Int)] = List.map (Value.int .i64) (ctB L (m + 1)).2 by rw [HSt.out, hp2]; simp)
            rw [show cliqB 0 (some s) = (p1 : Int) by rw [hp1]; rfl, show parB 0 (some s) = (p2 : Int) by rw [hp2]; rfl]
            have hbwi := Lib.hid (hb.trans (hbi.mono hb.size)).drew
            have hra := Lib.hid (show ∀ k', (Value.slice (some ⟨gA, 0, none⟩) i c1).ownBlock = some k' → w2.heap.size ≤ k' from fun k' e => (hA2.block k' e).1)
            have hrb := Lib.hid (show ∀ k', (Value.slice (some ⟨gB, 0, none⟩) i d1).ownBlock = some k' → w2.heap.size ≤ k' from fun k' e => (hB2.block k' e).1)
            have HJ2 := Lib.hid (show i + 1 = m + 1 + 1 by rw [hjm.out])
            have hi1 : i ≤ 1048576 := by omega
            clear hp1 hp2 hbt hA2 hB2 hoA hoB hne hM hU1 hU2 hb hbi hb1 hb2 hownC hriC HB7 HG7 HS Hs HSt HMem hX HL HC Hl1 hbc0 hbc1 hbl
            go_wp2_with fail
            go_region_law (first
              | (refine stepA_int rfl (.tmp 66) (.tmp 68) rfl (p1 : Int) rfl (by first | exact T8 | exact T8.alloc _) _ rfl (by first | exact cell_lit rfl | exact cell_lit (by simp) | exact cell_lit4 hg8 rfl (hgb _ (by simp)) | exact cell_lit4 hg8 (by simp) (hgb _ (by simp)) | exact cell_lit5 hg8 rfl (hgb _ (by simp)) | exact cell_lit5 hg8 (by simp) (hgb _ (by simp))) hi1 (by simp; omega) ?_; intro A7 c7 w7 T9 hg9; have hx9 := (T9.blk hbti.drew hna hnb).two; have f90 := (T9.blk hbti.drew hna hnb).frozen 0; have f91 := (T9.blk hbti.drew hna hnb).frozen 1)
              | (refine stepB_int rfl (.tmp 71) (.tmp 73) rfl (p2 : Int) rfl (by first | exact T7 | exact T7.alloc _) _ rfl (by first | exact cell_lit rfl | exact cell_lit (by simp) | exact cell_lit4 hg7 rfl (hga _ (by simp)) | exact cell_lit4 hg7 (by simp) (hga _ (by simp)) | exact cell_lit5 hg7 rfl (hga _ (by simp)) | exact cell_lit5 hg7 (by simp) (hga _ (by simp))) hi1 (by simp; omega) ?_; intro B8 d8 w7 T9 hg9; have hx9 := (T9.blk hbti.drew hna hnb).two; have f90 := (T9.blk hbti.drew hna hnb).frozen 0; have f91 := (T9.blk hbti.drew hna hnb).frozen 1)
              | (refine stepA_int rfl (.tmp 66) (.tmp 68) rfl (p1 : Int) rfl (by first | exact T0.alloc _ | exact (T0.alloc _).alloc _) _ rfl (by first | exact cell_lit rfl | exact cell_lit (by simp) | exact cell_lit1 rfl | exact cell_lit1 (by simp)) hi1 (by simp; omega) ?_; intro A7 c7 w7 T7 hg7; have hx7 := (T7.blk hbti.drew hna hnb).two; have hx77 := fun o => ((T7.blk hbti.drew hna hnb).alloc o).two)
              | (refine stepB_int rfl (.tmp 71) (.tmp 73) rfl (p2 : Int) rfl (by first | exact T0.alloc _ | exact (T0.alloc _).alloc _) _ rfl (by first | exact cell_lit rfl | exact cell_lit (by simp) | exact cell_lit1 rfl | exact cell_lit1 (by simp)) hi1 (by simp; omega) ?_; intro B8 d8 w7 T8 hg8; have hx8 := (T8.blk hbti.drew hna hnb).two; have hx88 := fun o => ((T8.blk hbti.drew hna hnb).alloc o).two))
            all_goals
              have hA9 : OwnI w7 w2.heap.size A7 (i + 1) c7 (ints (ctB L (m + 1)).1) := by unfold OwnI; rw [← eF.out]; exact T9.a
              have hB9 : OwnI w7 w2.heap.size B8 (i + 1) d8 (ctB L (m + 1)).2 := by unfold OwnI; rw [← eG.out]; exact T9.b
              have hn9 := T9.ne
              have hbm9 := T9.blk hbti.drew hna hnb
              have hw9 := T9.below hbwi.out hra.out hrb.out hsz2
              clear T9
              go_wp2_with fail
              go_roundg (gk - 1)
              case measure => omega
              case rel => exact ⟨m + 1, i + 1, A7, B8, c7, d8, HJ2.out, by omega, (hA9.other_store (i := 0) hbm9 (by decide) _).other_store (i := 1) (hbm9.set_ 0 _) (by decide) _, (hB9.other_store (i := 0) hbm9 (by decide) _).other_store (i := 1) (hbm9.set_ 0 _) (by decide) _, hn9, (hbm9.set_ 0 _).set_ 1 _, (hw9.setCell (p := ⟨bt, 0, none⟩) hbtge _).setCell (p := ⟨bt, 1, none⟩) hbtge _⟩
      · have hjL : j = L.length := by omega
        have HR := Lib.hid (show L.length - 1 = m by rw [← hjL, hjm.out, Nat.add_sub_cancel])
        have hl := HS.out m (by have := hjm.out; omega)
        have HLe := Lib.hid (show (ints (ctB L m).1).length = j ∧ (ctB L m).2.length = j by rw [ints_len, hl.1, hl.2.1]; exact ⟨hjm.out.symm, hjm.out.symm⟩)
        have hnot : ¬ j < L.length := hjt
        have hM5 := hM.below hb hlM
        have f0 := hM5.frozen 0
        have f1 := hM5.frozen 1
        have hyM := hM5.two
        have hlM5 := hM5.lt
        have hsz : w.heap.size ≤ w2.heap.size := hU2.size
        have hbw : Below w.heap.size w wo := hU2.trans (hb.mono hsz)
        have hneM : (w.heap.size + 1) ≠ bt := by omega
        have hfin := ((hM5.set_ 0 (.slice A1 j c1)).set_ 1 (.slice B1 j d1)).two
        have hA3 := (hoA.other_store (i := 0) hM5 (by decide) (.slice A1 j c1)).other_store (i := 1) (hM5.set_ 0 (.slice A1 j c1)) (by decide) (.slice B1 j d1)
        have hB3 := (hoB.other_store (i := 0) hM5 (by decide) (.slice A1 j c1)).other_store (i := 1) (hM5.set_ 0 (.slice A1 j c1)) (by decide) (.slice B1 j d1)
        have hbf := (hbw.setCell (p := ⟨w.heap.size + 1, 0, none⟩) (by simp) (.slice A1 j c1)).setCell (p := ⟨w.heap.size + 1, 1, none⟩) (by simp) (.slice B1 j d1)
        clear hjL hoA hoB hl hjt
        go_wp2
        generalize (wo.setCell ⟨w.heap.size + 1, 0, none⟩ (.slice A1 j c1)).setCell ⟨w.heap.size + 1, 1, none⟩ (.slice B1 j d1) = Wf at hfin hA3 hB3 hbf ⊢
        refine bodyPost_ret (v := .tuple #[.agg #[.slice A1 j c1, .slice B1 j d1], .bool true]) ?_ rfl ?_
        · simp [results, Try.results19, go_sem, hfin]
        rw [HR.out]
        exact ⟨A1, c1, B1, d1, by rw [HLe.out.1, HLe.out.2], (hA3.cast HLe.out.1.symm rfl).more hsz, (hB3.cast HLe.out.2.symm rfl).more hsz, by rw [HLe.out.1, HLe.out.2]; exact hne, hbf⟩
end Go.Proofs.Ytnaoomchekhcgaa
