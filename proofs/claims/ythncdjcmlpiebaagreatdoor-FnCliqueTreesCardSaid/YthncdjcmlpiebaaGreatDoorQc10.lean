/- Walks of chapter 6: a graph filled along an order, the reference's. Draws: chordal graphs, mostly. Draws: a graph and a set of its vertices. Draws: a graph and a number; chordal graphs. Chapter 10, plain: orders of cliques. No program in sight. Chapter 8, plain: the clique tree, grown by the clique that has most in common with a bag. No program in sight. -/
import Derived.Test.YthncdjcmlpiebaaGreatDoorQc01
import Derived.Test.YthncdjcmlpiebaaGreatDoorQc02
import Derived.Test.YthncdjcmlpiebaaGreatDoorQc06
import Derived.Test.YthncdjcmlpiebaaGreatDoorQc07
import Derived.Test.YthncdjcmlpiebaaGreatDoorQc08
import Derived.Test.YthncdjcmlpiebaaGreatDoorQc09
import Derived.Deep.RegionWith
namespace Go.Proofs.YthncdjcmlpiebaaGreatDoor
open Go.RowKit
set_option maxRecDepth 100000 in
/-- A graph's rows, a list of vertices beside. -/
theorem GN.store {w : World} {gr gb m : Nat} {wr : World} {A d : Nat} {Q : List Nat} (I : GN w gr gb m wr A d Q) {b n c : Nat} {B : Option Addr} {xs : List Int} (ho : OwnI wr b B n c xs) (A' d' : Nat) :
    OwnI ((wr.setCell ⟨gb, 0, none⟩ (.int .i64 m)).setCell ⟨gb, 1, none⟩ (.slice (some ⟨A', 0, none⟩) m d')) b B n c xs :=
  (ho.other_store (i := 0) I.box (by decide) (.int .i64 m)).other_store (i := 1) (I.box.set_ 0 (.int .i64 m)) (by decide) (.slice (some ⟨A', 0, none⟩) m d')
set_option maxRecDepth 100000 in
theorem graph_outF {N : Int} {n : Nat} {Q : List Nat} {b : Bool} {w : World} {e : Ending} {w' : World} (h : GivesGB N (ints Q) b w e w') (hl : Q.length = n) (h0 : 0 < n) :
    ∃ g d, e = .returned (.tuple #[.agg #[.int .i64 N, .slice (some ⟨g, 0, none⟩) n d], .bool b]) ∧ OwnI w' w.heap.size (some ⟨g, 0, none⟩) n d (ints Q) ∧ Below w.heap.size w w' := by
  obtain ⟨B, d, rfl, hown, hb⟩ := h
  have e : (ints Q).length = n := by rw [ints_len, hl]
  rw [e] at hown ⊢
  obtain ⟨g, rfl⟩ := hown.form h0
  exact ⟨g, d, rfl, hown, hb⟩
set_option maxRecDepth 100000 in
theorem specListOf_outF {s : Nat} {w : World} (hs : s < 128) : Calls Tryz.prog 73 #[.int .i64 s] w fun e w' => ∃ B d, e = .returned (.slice B (listOf s).length d) ∧ OwnI w' w.heap.size B (listOf s).length d (ints (listOf s)) ∧ Below w.heap.size w w' :=
  (specListOf_any s w hs).mono fun _ _ h => h.out
set_option maxRecDepth 100000 in
set_option maxHeartbeats 4000000 in
theorem l6Filled_any (A B : Option Addr) (n c d : Nat) (Q o : List Nat) (w : World) (hX : RI w A n (ints Q)) (hL : RI w B n (ints o)) (h : GOk n Q) (ho : natVerts n o) (hol : o.length = n) :
    Calls Tryz.prog 128 #[.agg #[.int .i64 n, .slice A n c], .slice B n d] w fun e w' => ∃ g' d', e = .returned (.agg #[.int .i64 n, .slice (some ⟨g', 0, none⟩) n d']) ∧ OwnI w' w.heap.size (some ⟨g', 0, none⟩) n d' (ints (fillK Q o n)) ∧ Below w.heap.size w w' := by
  have hn7 := h.le
  have hn1 := h.pos
  obtain ⟨ad, rfl, hab, _⟩ := hX.addr hn1
  obtain ⟨bd, rfl, hbb, _⟩ := hL.addr hn1
  have hU0 : Up w ((w.alloc (.cells #[.int .i64 n, .slice (some ad) n c] 29)).alloc (.cells #[.int .i64 0, .slice none 0 0] 29)) := by go_grown
  have hR0 : Blk ((w.alloc (.cells #[.int .i64 n, .slice (some ad) n c] 29)).alloc (.cells #[.int .i64 0, .slice none 0 0] 29)) (w.heap.size + 1) 29 #[.int .i64 0, .slice none 0 0] := Blk.new_at (by simp)
  have hz0 : ((w.alloc (.cells #[.int .i64 n, .slice (some ad) n c] 29)).alloc (.cells #[.int .i64 0, .slice none 0 0] 29)).heap.size = w.heap.size + 2 := by simp
  go_enter Tryz.func128, Tryz.ntmps128
  go_wp2_with fail
  refine (l2Copy_nat ad n c Q _ (hX.up hU0) h.len hn1 (by omega)).mono ?_
  rintro e w1 ⟨A1, d1, rfl, hO1, hb1, hA1⟩
  have hs1 := hb1.size
  have hU1 : Up w1 (w1.alloc (.cells #[.int .i64 n, .slice (some ⟨A1, 0, none⟩) n d1] 29)) := by go_grown
  have I0 : GN w (w.heap.size + 1) w1.heap.size n (w1.alloc (.cells #[.int .i64 n, .slice (some ⟨A1, 0, none⟩) n d1] 29)) A1 d1 Q :=
    ⟨(hR0.up hb1).up hU1, Blk.new _ _ _, (hO1.more (by omega)).up hU1, h, Up.then_ (Up.then_ hU0 hb1) hU1, by omega, by omega, by omega⟩
  obtain ⟨gr, hgr⟩ : ∃ gr, gr = w.heap.size + 1 := ⟨_, rfl⟩
  obtain ⟨gb, hgb⟩ : ∃ gb, gb = w1.heap.size := ⟨_, rfl⟩
  rw [← hgr, ← hgb] at I0
  go_wp2_with fail
  rw [← hgr, ← hgb]
  generalize w1.alloc (.cells #[.int .i64 n, .slice (some ⟨A1, 0, none⟩) n d1] 29) = w2 at I0 ⊢
  clear hgr hgb hU1 hO1 hb1 hR0 hU0 hz0 hs1 hA1
  have HO := Lib.hid ho
  have HOL := Lib.hid hol
  have HK := Lib.hid fun k => fillK_ok (o := o) h k
  have hLw := Lib.hid hL
  have HF0 := Lib.hid (show fillK Q o 0 = Q from rfl)
  clear ho hol hX hab
  go_loopw [6] (fun v wr => ∃ (k A d : Nat), k ≤ n ∧ v = .int .i64 k ∧ GN w gr gb n wr A d (fillK Q o k)) (fun v _ => n - (intOf v).toNat)
  case atStart => exact ⟨0, _, _, Nat.zero_le _, rfl, by rw [HF0.out]; exact I0⟩
  case round =>
    clear I0 hL
    obtain ⟨k, A, d', hk, rfl, I⟩ := hrel
    obtain ⟨wo, rfl⟩ : ∃ wo : World, wo = wr := ⟨_, rfl⟩
    by_cases hkn : k < n
    · have hkv := HO.out.at_ (j := k) (by rw [HOL.out]; exact hkn)
      have hLo := hLw.out.up I.bel
      have hc := hLo.nbs hkn
      have hbd : bd.block < wo.heap.size := by have := I.bel.size; omega
      have hX' := I.own.ri
      obtain ⟨v, hv⟩ : ∃ v, v = nb o k := ⟨_, rfl⟩
      obtain ⟨Qk, hQk⟩ : ∃ Qk, Qk = fillK Q o k := ⟨_, rfl⟩
      have HNx : fillK Q o (k + 1) = joinG Qk (ltr Qk o v) := by rw [hQk, hv]; rfl
      have hqk : GOk n Qk := by rw [hQk]; exact HK.out k
      obtain ⟨L, hLt⟩ : ∃ L, L = ltr Qk o v := ⟨_, rfl⟩
      have hLl : ∀ i, L.testBit i = true → i < n := by rw [hLt]; exact ltr_low hqk o v
      have hL2 : L < 2 ^ n := by
        refine Nat.lt_pow_two_of_testBit _ fun i hi => ?_
        rw [← Bool.not_eq_true]
        exact fun e => by have := hLl i e; omega
      have hL7 : L < 128 := hqk.n7 hL2
      rw [← hv] at hc hkv
      rw [← hQk] at I hX'
      have HLa := Lib.hid (show laterOf n (ints Qk) (ints o) v = L by rw [laterOf_ok (isOrder_nat hqk HO.out HOL.out) hkv, hLt])
      rw [← hLt, ← joinA_joinG hqk hLl] at HNx
      have HN := Lib.hid HNx
      have HAk := Lib.hid fun a ha => (joinA_ok hqk hLl a ha).1
      have HLI := Lib.hid fun x (hx : x < (listOf L).length) => hLl _ (listOf_nb hx).2
      have HNE := Lib.hid fun x y (hy : y < x) (hx : x < (listOf L).length) => listOf_asc hy hx
      have HQK := Lib.hid hqk
      clear hv hQk hLt HNx hLl hL2
      have hy := I.box.two
      have hlb := I.box.lt
      go_wp2_with fail
      have hV0 : Up wo wo.drew := (Up.refl _).drew
      refine wp_region_held_drew (S := (fun w' => Up wo w' ∧ (∀ b o, b < wo.heap.size → w'.cell? ⟨b, o, none⟩ = wo.cell? ⟨b, o, none⟩) ∧ w'.cell? (bd.add k) = some (.int .i64 (v : Nat)))) (by kernel_rfl) (by exact ⟨hV0, fun _ _ hb => hV0.cell hb, (hV0.cell (by first | assumption | (rw [block_of_add]; assumption))).trans (by assumption)⟩) (fun hHeld => ?_)
      refine wpAnyH_take (i := 0) (v := ?_) rfl (by kernel_rfl) (by kernel_rfl) (by kernel_rfl) (fun _ _ _ h => h) (Or.inl ⟨by rfl, ?_⟩) (by assumption) ?_
      rotate_left
      · (intro w' hSw; go_simp; try with_reducible rfl)
      (try simp only [List.getElem_toArray]); (try simp only [List.getElem_cons_succ]); (try simp only [List.getElem_cons_zero]); (try simp only [Act.put]); (try simp only [List.setIfInBounds_toArray]); (try simp only [List.set_cons_succ]); (try simp only [List.set_cons_zero])
      refine wpAnyH_take (i := 1) (v := ?_) rfl (by kernel_rfl) (by kernel_rfl) (by kernel_rfl) (fun _ _ _ h => h) (Or.inl ⟨by rfl, ?_⟩) (by assumption) ?_
      rotate_left
      · (intro w' hSw; go_simp; try with_reducible rfl)
      (try simp only [List.getElem_toArray]); (try simp only [List.getElem_cons_succ]); (try simp only [List.getElem_cons_zero]); (try simp only [Act.put]); (try simp only [List.setIfInBounds_toArray]); (try simp only [List.set_cons_succ]); (try simp only [List.set_cons_zero])
      refine wpAnyH_take (i := 2) (v := ?_) rfl (by kernel_rfl) (by kernel_rfl) (by kernel_rfl) (fun _ _ _ h => h) (Or.inl ⟨by rfl, ?_⟩) (by assumption) ?_
      rotate_left
      · (intro w' hSw; go_simp; try with_reducible rfl)
      (try simp only [List.getElem_toArray]); (try simp only [List.getElem_cons_succ]); (try simp only [List.getElem_cons_zero]); (try simp only [Act.put]); (try simp only [List.setIfInBounds_toArray]); (try simp only [List.set_cons_succ]); (try simp only [List.set_cons_zero])
      refine wpAnyH_take (i := 3) (v := ?_) rfl (by kernel_rfl) (by kernel_rfl) (by kernel_rfl) (fun _ _ _ h => h) (Or.inl ⟨by rfl, ?_⟩) (by assumption) ?_
      rotate_left
      · (intro w' hSw; go_simp; try with_reducible rfl)
      (try simp only [List.getElem_toArray]); (try simp only [List.getElem_cons_succ]); (try simp only [List.getElem_cons_zero]); (try simp only [Act.put]); (try simp only [List.setIfInBounds_toArray]); (try simp only [List.set_cons_succ]); (try simp only [List.set_cons_zero])
      refine wpAnyH_take (i := 4) (v := ?_) rfl (by kernel_rfl) (by kernel_rfl) (by kernel_rfl) (fun _ _ _ h => h) (Or.inl ⟨by rfl, ?_⟩) (by assumption) ?_
      rotate_left
      · (intro w' hSw; go_simp; try with_reducible rfl)
      (try simp only [List.getElem_toArray]); (try simp only [List.getElem_cons_succ]); (try simp only [List.getElem_cons_zero]); (try simp only [Act.put]); (try simp only [List.setIfInBounds_toArray]); (try simp only [List.set_cons_succ]); (try simp only [List.set_cons_zero])
      refine wpAnyH_take (i := 5) (v := ?_) rfl (by kernel_rfl) (by kernel_rfl) (by kernel_rfl) (fun _ _ _ h => h) (Or.inl ⟨by rfl, ?_⟩) (by assumption) ?_
      rotate_left
      · (intro w' hSw; go_simp; try with_reducible rfl)
      (try simp only [List.getElem_toArray]); (try simp only [List.getElem_cons_succ]); (try simp only [List.getElem_cons_zero]); (try simp only [Act.put]); (try simp only [List.setIfInBounds_toArray]); (try simp only [List.set_cons_succ]); (try simp only [List.set_cons_zero])
      refine wpAnyH_ready (rs := [6]) (by kernel_rfl) (by simp) ?_
      refine AllReadyH.cons rfl (fun K hK => ?_) AllReadyH.nil
      go_simp
      go_at_call 148
      refine (specLater_is (hX'.up hV0) (hLo.up hV0) (by omega) (by omega) HLa.out).mono ?_
      rintro e w50 ⟨rfl, hb50⟩
      have hV1 := Up.then_ hV0 hb50
      go_wp2_with fail
      refine hK.out _ _ (by exact ⟨hV1, fun _ _ hb => hV1.cell hb, (hV1.cell (by first | assumption | (rw [block_of_add]; assumption))).trans (by assumption)⟩) (fun hHeld1 => ?_)
      clear hK K
      (try simp only [List.getElem_toArray]); (try simp only [List.getElem_cons_succ]); (try simp only [List.getElem_cons_zero]); (try simp only [Act.put]); (try simp only [List.setIfInBounds_toArray]); (try simp only [List.set_cons_succ]); (try simp only [List.set_cons_zero])
      refine wpAnyH_ready (rs := [7]) (by kernel_rfl) (by simp) ?_
      refine AllReadyH.cons rfl (fun K hK => ?_) AllReadyH.nil
      go_simp
      go_at_call 73
      refine (specListOf_outF hL7).mono ?_
      rintro e w51 ⟨B3, d3, rfl, hO3, hb51⟩
      have hV2 := Up.then_ hV1 hb51
      go_wp2_with fail
      refine hK.out _ _ (by exact ⟨hV2, fun _ _ hb => hV2.cell hb, (hV2.cell (by first | assumption | (rw [block_of_add]; assumption))).trans (by assumption)⟩) (fun hHeld2 => ?_)
      clear hK K
      (try simp only [List.getElem_toArray]); (try simp only [List.getElem_cons_succ]); (try simp only [List.getElem_cons_zero]); (try simp only [Act.put]); (try simp only [List.setIfInBounds_toArray]); (try simp only [List.set_cons_succ]); (try simp only [List.set_cons_zero])
      refine wpAnyH_take (i := 8) (v := ?_) rfl (by kernel_rfl) (by kernel_rfl) (by kernel_rfl) (fun _ _ _ h => h) (Or.inl ⟨by rfl, ?_⟩) (by assumption) ?_
      rotate_left
      · (intro w' hSw; go_simp; try with_reducible rfl)
      (try simp only [List.getElem_toArray]); (try simp only [List.getElem_cons_succ]); (try simp only [List.getElem_cons_zero]); (try simp only [Act.put]); (try simp only [List.setIfInBounds_toArray]); (try simp only [List.set_cons_succ]); (try simp only [List.set_cons_zero])
      refine wpAnyH_done (by kernel_rfl) ?_ _
      have hU5 := hV2
      replace hO3 := hO3.more (base' := w.heap.size) (by have := I.bel.size; have := hV1.size; omega)
      replace I := I.up hU5
      obtain ⟨w3, hw3⟩ : ∃ w3, w3 = w51 := ⟨_, rfl⟩
      rw [← hw3] at I hO3 ⊢
      clear hw3 hy hlb hV0 hV1 hV2 hb50 hb51 hU5 hHeld hHeld1 hHeld2 hc hkv hbd hX' hLo HLa w50 w51
      have hl7 := listOf_len L
      obtain ⟨l, hl⟩ : ∃ l, l = listOf L := ⟨_, rfl⟩
      rw [← hl] at HN HAk HLI HNE hl7 hO3 ⊢
      clear hl
      have HA0 := Lib.hid (show joinA Qk l 0 = Qk from rfl)
      go_wp2_with fail
      go_loopw [8] (fun v wr => ∃ (i A d' : Nat), i ≤ l.length ∧ v = .int .i64 i ∧ GN w gr gb n wr A d' (joinA Qk l i) ∧ OwnI wr w.heap.size B3 l.length d3 (ints l)) (fun v _ => l.length - (intOf v).toNat)
      case atStart => exact ⟨0, _, _, Nat.zero_le _, rfl, by rw [HA0.out]; exact I, hO3⟩
      case round =>
        clear I hO3
        obtain ⟨i, A, d', hi, rfl, I, hO3⟩ := hrel
        obtain ⟨wi, rfl⟩ : ∃ wi : World, wi = wr := ⟨_, rfl⟩
        by_cases hil : i < l.length
        · have HNi := Lib.hid (show joinA Qk l (i + 1) = joinB (joinA Qk l i) l i i from rfl)
          have HQi := Lib.hid (HAk.out i hi)
          obtain ⟨Qi, hQi⟩ : ∃ Qi, Qi = joinA Qk l i := ⟨_, rfl⟩
          rw [← hQi] at I HNi HQi
          clear hQi
          have HB0 := Lib.hid (show joinB Qi l i 0 = Qi from rfl)
          have HBk := Lib.hid fun b (hb : b ≤ i) => (joinB_ok HQi.out (a := i) (HLI.out i hil) b fun y hy => ⟨HLI.out y (by omega), fun e => HNE.out i y (by omega) hil e.symm⟩).1
          go_wp2_with fail
          go_loopw [9] (fun v wr => ∃ (j A d' : Nat), j ≤ i ∧ v = .int .i64 j ∧ GN w gr gb n wr A d' (joinB Qi l i j) ∧ OwnI wr w.heap.size B3 l.length d3 (ints l)) (fun v _ => i - (intOf v).toNat)
          case atStart => exact ⟨0, _, _, Nat.zero_le _, rfl, by rw [HB0.out]; exact I, hO3⟩
          case round =>
            clear I hO3
            obtain ⟨j, A, d', hj, rfl, I, hO3⟩ := hrel
            obtain ⟨wj, rfl⟩ : ∃ wj : World, wj = wr := ⟨_, rfl⟩
            by_cases hji : j < i
            · have hjl : j < l.length := by omega
              have HS := Lib.hid (show joinB Qi l i (j + 1) = addE (joinB Qi l i j) (nb l i) (nb l j) from rfl)
              have hT := HBk.out j hj
              obtain ⟨T, hTT⟩ : ∃ T, T = joinB Qi l i j := ⟨_, rfl⟩
              rw [← hTT] at I HS hT
              clear hTT
              obtain ⟨ad3, rfl, hcv⟩ := hO3.ri.nb_at hil
              have hcx := hO3.ri.nbs hjl
              have hvn := HLI.out i hil
              have hxn := HLI.out j hjl
              have hne := HNE.out i j hji hil
              obtain ⟨v, hv⟩ : ∃ v, v = nb l i := ⟨_, rfl⟩
              rw [← hv] at hcv hvn hne HS
              clear hv
              obtain ⟨y, hy⟩ : ∃ y, y = nb l j := ⟨_, rfl⟩
              rw [← hy] at hcx hxn hne HS
              clear hy
              have hyb := I.box.two
              go_wp2_with fail
              have hyb2 : wj.drew.cell? ⟨gb, 0, none⟩ = some (.int .i64 n) ∧ wj.drew.cell? ⟨gb, 1, none⟩ = some (.slice (some ⟨A, 0, none⟩) n d') := hyb
              have hcv2 : wj.drew.cell? (ad3.add i) = some (.int .i64 v) := hcv
              have hcx2 : wj.drew.cell? (ad3.add j) = some (.int .i64 y) := hcx
              go_region_with (refine ((addEdge_ok ⟨A, 0, none⟩ n d' v y T _ I.own.drew.ri hT hvn hxn (fun e => hne e.symm)).mono fun e w' hg => graph_outF hg (by rw [addE_len, hT.len]) (by omega)).mono ?_; rintro e w4 ⟨g', d2, rfl, hown4, hb4⟩; have I4 := (I.up (Below.drew (Up.refl _))).up hb4; have hyb4 := I4.box.two; have f0 := I4.box.frozen 0; have f1 := I4.box.frozen 1)
              all_goals
                have hU4 : Up wj w4 := Up.then_ (Below.drew (Up.refl _)) hb4
                have hO4 := hO3.up hU4
                have I5 := I.put hU4 (hown4.more (base' := wj.heap.size) (Nat.le_refl _)) (hT.addE hvn hxn (fun e => hne e.symm))
                rw [← HS.out] at I5
                have hO5 := I4.store hO4 g' d2
                clear hown4 I4 I hO3 hb4 hyb hyb2 hcv2 hcx2 hcv hcx
                go_wp2_with fail
                go_roundw
                case rel => exact ⟨j + 1, g', d2, by omega, by go_num, I5, hO5⟩
                case measure => simp [intOf]; omega
            · obtain rfl : j = i := by omega
              go_wp2
              go_roundw
              case rel => exact ⟨j + 1, A, d', by omega, by go_num, by rw [HNi.out]; exact I, hO3⟩
              case measure => simp [intOf]; omega
        · obtain rfl : i = l.length := by omega
          go_wp2
          go_roundw
          case rel => exact ⟨k + 1, A, d', by omega, by go_num, by rw [HN.out]; exact I⟩
          case measure => simp [intOf]; omega
    · obtain rfl : k = n := by omega
      have hy := I.box.two
      have hfz := I.res.frozen
      have hf0 := hfz 0
      have hf1 := hfz 1
      clear hfz
      have hyr := I.res.two
      have hgr := I.hgr
      have hfin := ((I.res.set_ 0 (.int .i64 (k : Nat))).set_ 1 (.slice (some ⟨A, 0, none⟩) k d')).two
      have o2 := (I.own.other_store (i := 0) I.res (by decide) (.int .i64 (k : Nat))).other_store (i := 1) (I.res.set_ 0 (.int .i64 (k : Nat))) (by decide) (.slice (some ⟨A, 0, none⟩) k d')
      have hb2 := (I.bel.setCell (p := ⟨gr, 0, none⟩) hgr (.int .i64 (k : Nat))).setCell (p := ⟨gr, 1, none⟩) hgr (.slice (some ⟨A, 0, none⟩) k d')
      clear I
      go_wp2
      generalize (wo.setCell ⟨gr, 0, none⟩ (.int .i64 (k : Nat))).setCell ⟨gr, 1, none⟩ (.slice (some ⟨A, 0, none⟩) k d') = Wf at hfin o2 hb2 ⊢
      refine bodyPost_ret (v := .agg #[.int .i64 (k : Nat), .slice (some ⟨A, 0, none⟩) k d']) ?_ rfl ?_
      · simp [results, Tryz.results128, go_sem, hfin]
      exact ⟨A, d', rfl, o2, hb2⟩
end Go.Proofs.YthncdjcmlpiebaaGreatDoor
namespace Go.Proofs.YthncdjcmlpiebaaGreatDoor
open Go.RowKit
/-- A drawn graph in a box, the result beside; the cursor is the caller's. -/
structure GX (w : World) (g : Nat) (B : Option Addr) (n c : Nat) (bs : List Int) (gr gb : Nat) (N : Int) (A : Option Addr) (m d : Nat) (X : List Int) (wr : World) : Prop where
  cur : Cur wr g B n c bs
  res : Blk wr gr 29 #[.int .i64 0, .slice none 0 0]
  box : Blk wr gb 29 #[.int .i64 N, .slice A m d]
  own : OwnI wr w.heap.size A m d X
  gby : w.grownBy wr (some g)
  low : g < w.heap.size
  hgr : w.heap.size ≤ gr
  hgb : w.heap.size ≤ gb
  ne : gr ≠ gb
section
variable {w wr w' : World} {g n c gr gb m d : Nat} {B A : Option Addr} {bs X : List Int} {N : Int}
set_option maxRecDepth 100000 in
theorem GX.up (I : GX w g B n c bs gr gb N A m d X wr) (hb : Up wr w') : GX w g B n c bs gr gb N A m d X w' :=
  ⟨I.cur.up hb, I.res.up hb, I.box.up hb, I.own.up hb, gb_up I.gby hb, I.low, I.hgr, I.hgb, I.ne⟩
set_option maxRecDepth 100000 in
theorem GX.dr (I : GX w g B n c bs gr gb N A m d X wr) (hC : Cur w' g B n c bs) (hg : wr.grownBy w' (some g)) : GX w g B n c bs gr gb N A m d X w' :=
  ⟨hC, I.res.grown hg (fun e => by injection e with e; have := I.low; have := I.hgr; omega), I.box.grown hg (fun e => by injection e with e; have := I.low; have := I.hgb; omega), I.own.far_gb hg I.low, gb_trans I.gby hg, I.low, I.hgr, I.hgb, I.ne⟩
set_option maxRecDepth 100000 in
/-- The box's fields go into the result. -/
theorem GX.fin {P : Int → List Int → Prop} (I : GX w g B n c bs gr gb N A m d X wr) (hP : P N X) :
    Dr g B n c bs w (fun v w' => Gv P w.heap.size v w') (.returned (.agg #[.int .i64 N, .slice A m d])) ((wr.setCell ⟨gr, 0, none⟩ (.int .i64 N)).setCell ⟨gr, 1, none⟩ (.slice A m d)) ∧
      (((wr.setCell ⟨gr, 0, none⟩ (.int .i64 N)).setCell ⟨gr, 1, none⟩ (.slice A m d)).cell? ⟨gr, 0, none⟩ = some (.int .i64 N) ∧ ((wr.setCell ⟨gr, 0, none⟩ (.int .i64 N)).setCell ⟨gr, 1, none⟩ (.slice A m d)).cell? ⟨gr, 1, none⟩ = some (.slice A m d)) := finG I.res I.own hP I.cur I.gby I.hgr I.low
end
set_option maxRecDepth 100000 in
theorem lex_some {N s : Int} {X : List Int} (h : (lexOf N X s).isSome = true) : ∃ (k : Nat) (Q o : List Nat), N = k ∧ X = ints Q ∧ GOk k Q ∧ natVerts k o ∧ o.length = k ∧ optL (lexOf N X s) = ints o := by
  rcases lexOf_cases N X s with ⟨hl, _⟩ | ⟨n, t, Q, rfl, rfl, rfl, h, ht⟩
  · rw [hl] at h; cases h
  · obtain ⟨h1, h2⟩ := lexR_order h ht
    exact ⟨n, Q, _, rfl, rfl, h, h1, h2, by rw [lexOf_ok h ht]; rfl⟩
set_option maxRecDepth 100000 in
set_option maxHeartbeats 4000000 in
theorem l8Chordal_any {g : Nat} {B : Option Addr} {n c : Nat} {bs : List Int} {w : World} (hC : Cur w g B n c bs) :
    Calls Tryz.prog 78 #[.pointer (some ⟨g, 0, none⟩)] w (Dr g B n c bs w fun v w' => Gv le6 w.heap.size v w') := by
  have hlow := hC.lt
  have hU0 : Up w (w.alloc (.cells #[.int .i64 0, .slice none 0 0] 29)) := by go_grown
  have hR0 := Blk.new w 29 #[.int .i64 0, .slice none 0 0]
  have hC0 := hC.up hU0
  have hg0 := gb_of_up (some g) hU0
  obtain ⟨gr, hgr⟩ : ∃ gr, gr = w.heap.size := ⟨_, rfl⟩
  go_enter Tryz.func78, Tryz.ntmps78
  go_wp2_with fail
  refine (l2Any_any hC0).mono ?_
  rintro e w1 ⟨v, rfl, ⟨N, A, m, d, X, rfl, ho, hX⟩, hC1, hg1⟩
  have hs1 := hg1.size
  try simp only [World.size_alloc] at hs1
  have hR1 := hR0.grown hg1 (fun e => by injection e with e; omega)
  have hG1 := gb_trans hg0 hg1
  have hU1 : Up w1 (w1.alloc (.cells #[.int .i64 N, .slice A m d] 29)) := by go_grown
  rw [← hgr] at hR1 ⊢
  have hgr' : w.heap.size ≤ gr := by omega
  have hgrb : gr ≠ w1.heap.size := by omega
  have I : GX w g B n c bs gr w1.heap.size N A m d X (w1.alloc (.cells #[.int .i64 N, .slice A m d] 29)) :=
    ⟨hC1.up hU1, hR1.up hU1, Blk.new _ _ _, (ho.more (by simp)).up hU1, gb_up hG1 hU1, hlow, hgr', by omega, hgrb⟩
  clear hR0 hC0 hg0 hg1 hU0 hR1 hC1 hG1 ho hC hU1 hgr hgrb
  obtain ⟨gb, hgb⟩ : ∃ gb, gb = w1.heap.size := ⟨_, rfl⟩
  rw [← hgb] at I
  go_wp2_with fail
  rw [← hgb]
  generalize w1.alloc (.cells #[.int .i64 N, .slice A m d] 29) = w2 at I ⊢
  clear hgb hs1 hgr'
  have hm6 : m ≤ 6 := by rw [← I.own.len]; exact hX
  have hm64 : m ≤ 9223372036854775807 := by omega
  have hy := I.box.two
  have hlb := I.box.lt
  have hgs := I.cur.lt
  have HLX := fun s => Lib.hid (show (lexOf N X s).isSome = true → ∃ (k : Nat) (Q o : List Nat), N = k ∧ X = ints Q ∧ GOk k Q ∧ natVerts k o ∧ o.length = k ∧ optL (lexOf N X s) = ints o from lex_some)
  go_region_with (first
    | (go_at_call 77; refine (l1Below_any (I.up (Below.drew (Up.refl _))).cur 2 (by omega) (by omega)).mono ?_; rintro e w5 ⟨v, rfl, ⟨x, rfl, hx⟩, hC5, hg5⟩; have I5 := (I.up (Below.drew (Up.refl _))).dr hC5 hg5; have hy5 := I5.box.two)
    | (go_at_call 127; refine (specLexOrder_any N (x : Int) A m d X _ I5.own.ri hm64).mono ?_; rintro e w6 ⟨A2, c2, rfl, hO2, hb6⟩; have I6 := I5.up hb6; have hy6 := I6.box.two; have HL6 := HLX (x : Int); have hO2' := hO2.more (base' := g + 1) (by have := I5.cur.lt; omega); obtain ⟨xs2, hxs2⟩ : ∃ xs2, xs2 = optL (lexOf N X (x : Int)) := ⟨_, rfl⟩; obtain ⟨b2, hbb2⟩ : ∃ b2, b2 = (lexOf N X (x : Int)).isSome := ⟨_, rfl⟩; rw [← hxs2] at hO2 hO2'; rw [← hbb2, ← hxs2] at HL6 ⊢; clear hxs2 hbb2 hx))
  all_goals
    replace I := I6
    have hL2 := hO2'
    have hgrw := I.hgr
    clear I6 I5 hg5 hC5 hb6 hy5 hy6 hy hlb hgs hO2 hO2' HLX w5
    cases b2
    · clear HL6 hL2
      have hy := I.box.two
      have hf0 := I.res.frozen 0
      have hf1 := I.res.frozen 1
      have hyr := I.res.two
      obtain ⟨f1, hfin⟩ := I.fin (P := le6) hX
      clear I
      go_wp2
      generalize (w6.setCell ⟨gr, 0, none⟩ (.int .i64 N)).setCell ⟨gr, 1, none⟩ (.slice A m d) = Wf at f1 hfin ⊢
      refine bodyPost_ret (v := .agg #[.int .i64 N, .slice A m d]) ?_ rfl ?_
      · simp [results, Tryz.results78, go_sem, hfin]
      exact f1
    · go_wp2_with fail
      refine (l1Once_any I.cur 4 (by omega) (by omega)).mono ?_
      rintro e w7 ⟨v, rfl, ⟨q, rfl⟩, hC7, hg7⟩
      replace I := I.dr hC7 hg7
      cases q
      · obtain ⟨k, Q, o, rfl, rfl, h, ho, hol, hxo⟩ := HL6.out trivial
        clear HL6
        subst hxo
        have hlk : (ints Q).length = k := by rw [ints_len, h.len]
        have hlo : (ints o).length = k := by rw [ints_len, hol]
        obtain rfl : m = k := by have := I.own.len; omega
        have hL7 := hL2.far_gb hg7 (by omega)
        have hs7 := I.gby.size
        rw [hlo] at hL7 ⊢
        clear hL2 hC7 hg7
        have hy := I.box.two
        have hlb := I.box.lt
        go_wp2_with fail
        refine (l6Filled_any A A2 m d c2 Q o _ I.own.ri hL7.ri h ho hol).mono ?_
        rintro e w8 ⟨g8, d8, rfl, hO8, hb8⟩
        replace I := I.up hb8
        have hsz := I.gby.size
        have hlF : (ints (fillK Q o m)).length = m := hO8.len
        have hO8' := hO8.more (base' := w.heap.size) hs7
        have hf0 := I.res.frozen 0
        have hf1 := I.res.frozen 1
        have hyr := I.res.two
        obtain ⟨f1, hfin⟩ := finG (N := (m : Nat)) (P := le6) I.res hO8' (show (ints (fillK Q o m)).length ≤ 6 by omega) I.cur I.gby I.hgr I.low
        clear I hy hL7 hO8 hO8' hb8
        go_wp2
        generalize (w8.setCell ⟨gr, 0, none⟩ (.int .i64 (m : Nat))).setCell ⟨gr, 1, none⟩ (.slice (some ⟨g8, 0, none⟩) m d8) = Wf at f1 hfin ⊢
        refine bodyPost_ret (v := .agg #[.int .i64 (m : Nat), .slice (some ⟨g8, 0, none⟩) m d8]) ?_ rfl ?_
        · simp [results, Tryz.results78, go_sem, hfin]
        exact f1
      · have hy := I.box.two
        have hf0 := I.res.frozen 0
        have hf1 := I.res.frozen 1
        have hyr := I.res.two
        obtain ⟨f1, hfin⟩ := I.fin (P := le6) hX
        clear I HL6 hL2 hC7 hg7
        go_wp2
        generalize (w7.setCell ⟨gr, 0, none⟩ (.int .i64 N)).setCell ⟨gr, 1, none⟩ (.slice A m d) = Wf at f1 hfin ⊢
        refine bodyPost_ret (v := .agg #[.int .i64 N, .slice A m d]) ?_ rfl ?_
        · simp [results, Tryz.results78, go_sem, hfin]
        exact f1
end Go.Proofs.YthncdjcmlpiebaaGreatDoor
namespace Go.Proofs.YthncdjcmlpiebaaGreatDoor
open Go.RowKit
set_option maxRecDepth 100000 in
set_option maxHeartbeats 2000000 in
theorem l3Set_any {g : Nat} {B : Option Addr} {n c : Nat} {bs : List Int} {w : World} (hC : Cur w g B n c bs) (N : Int) (A : Option Addr) (m d : Nat) :
    Calls Tryz.prog 136 #[.pointer (some ⟨g, 0, none⟩), .agg #[.int .i64 N, .slice A m d]] w (Dr g B n c bs w fun v _ => ∃ z : Int, v = .int .i64 z) := by
  have hlow := hC.lt
  have hU0 : Up w (w.alloc (.cells #[.int .i64 N, .slice A m d] 29)) := by go_grown
  have hB0 := Blk.new w 29 #[.int .i64 N, .slice A m d]
  have hC0 := hC.up hU0
  have hG0 := gb_of_up (some g) hU0
  obtain ⟨gb, hgb⟩ : ∃ gb, gb = w.heap.size := ⟨_, rfl⟩
  rw [← hgb] at hB0
  go_enter Tryz.func136, Tryz.ntmps136
  go_wp2_with fail
  rw [← hgb]
  generalize w.alloc (.cells #[.int .i64 N, .slice A m d] 29) = w0 at hU0 hB0 hC0 hG0 ⊢
  refine (l1Once_any hC0 16 (by omega) (by omega)).mono ?_
  rintro e w1 ⟨v, rfl, ⟨q, rfl⟩, hC1, hg1⟩
  have hB1 := hB0.grown hg1 (fun e => by injection e with e; omega)
  have hG1 := gb_trans hG0 hg1
  have hs1 := hG1.size
  have hgs := hC1.lt
  clear hU0 hB0 hC0 hG0 hg1 hgb
  cases q
  · obtain ⟨h0, h1⟩ := hB1.two
    clear hB1
    rcases Int.lt_or_le N 0 with hN | hN
    · go_wp2_with fail
      refine (l1Below_int hC1 _ (by omega) (by omega)).mono ?_
      rintro e w4 ⟨v, rfl, ⟨x, rfl, _⟩, hC4, hg4⟩
      have hG4 := gb_trans hG1 hg4
      go_wp2
      go_ret
      exact ⟨_, rfl, ⟨_, rfl⟩, hC4, hG4⟩
    · rcases Int.lt_or_le 7 N with hM | hM
      · go_wp2_with fail
        refine (l1Below_int hC1 _ (by omega) (by omega)).mono ?_
        rintro e w4 ⟨v, rfl, ⟨x, rfl, _⟩, hC4, hg4⟩
        have hG4 := gb_trans hG1 hg4
        go_wp2
        go_ret
        exact ⟨_, rfl, ⟨_, rfl⟩, hC4, hG4⟩
      · rcases (show N = 0 ∨ N = 1 ∨ N = 2 ∨ N = 3 ∨ N = 4 ∨ N = 5 ∨ N = 6 ∨ N = 7 by omega) with rfl | rfl | rfl | rfl | rfl | rfl | rfl | rfl
        all_goals
          clear hN hM
          go_wp2_with fail
          refine (l1Below_int hC1 _ (by omega) (by omega)).mono ?_
          rintro e w4 ⟨v, rfl, ⟨x, rfl, _⟩, hC4, hg4⟩
          have hG4 := gb_trans hG1 hg4
          go_wp2
          go_ret
          exact ⟨_, rfl, ⟨_, rfl⟩, hC4, hG4⟩
  · have hU4 : Up w1 (w1.alloc (.cells #[.int .i64 (-1), .int .i64 64, .int .i64 127, .int .i64 128, .int .i64 9223372036854775807] 3)) := by go_grown
    have hX4 : RI (w1.alloc (.cells #[.int .i64 (-1), .int .i64 64, .int .i64 127, .int .i64 128, .int .i64 9223372036854775807] 3)) (some ⟨w1.heap.size, 0, none⟩) 5 [-1, 64, 127, 128, 9223372036854775807] := Blk.ri (Blk.new w1 3 _) rfl
    go_wp2_with fail
    refine (l1PickInt_any (hC1.up hU4) hX4 (fun ad e => by injection e with e; subst e; show w1.heap.size ≠ g; omega) (by omega) (by omega)).mono ?_
    rintro e w4 ⟨v, rfl, ⟨j, hj, rfl⟩, hC4, hg4⟩
    obtain ⟨z, hz⟩ : ∃ z, z = ([-1, 64, 127, 128, 9223372036854775807] : List Int).getD j 0 := ⟨_, rfl⟩
    rw [← hz]
    clear hz
    have hG4 := gb_trans (gb_up hG1 hU4) hg4
    clear hU4 hX4 hC1 hG1 hg4
    go_wp2
    go_ret
    exact ⟨_, rfl, ⟨z, rfl⟩, hC4, hG4⟩
/-- A graph and a number. -/
def GraphZ (P : Int → List Int → Prop) (w : World) (e : Ending) (w' : World) : Prop := ∃ N A m d X z, e = .returned (.tuple #[.agg #[.int .i64 N, .slice A m d], .int .i64 z]) ∧ OwnI w' w.heap.size A m d X ∧ P N X ∧ Below w.heap.size w w'
set_option maxRecDepth 100000 in
set_option maxHeartbeats 4000000 in
theorem l3Both_any (B : Option Addr) (n c : Nat) (bs : List Int) (w : World) (hB : RB w B n bs) (hn : n ≤ 1048576) (hlow : ∀ ad, B = some ad → ad.block < w.heap.size) :
    Calls Tryz.prog 93 #[.slice B n c] w (GraphZ le6 w) := by
  have hU0 : Up w (w.alloc (.cells #[.int .i64 0, .slice none 0 0] 29)) := by go_grown
  have hR0 := Blk.new w 29 #[.int .i64 0, .slice none 0 0]
  have hs0 : (w.alloc (.cells #[.int .i64 0, .slice none 0 0] 29)).heap.size = w.heap.size + 1 := by simp
  obtain ⟨gr, hgr⟩ : ∃ gr, gr = w.heap.size := ⟨_, rfl⟩
  go_enter Tryz.func93, Tryz.ntmps93
  go_wp2_with fail
  refine (l1New_any B n c bs _ (hB.up hU0) hn (fun ad e => by have := hlow ad e; omega)).mono ?_
  rintro e w1 ⟨g, rfl, hC1, hb1, hg1⟩
  have hR1 := hR0.up hb1
  have hU1 := Up.then_ hU0 hb1
  rw [← hgr] at hR1 ⊢
  have hgr' : w.heap.size ≤ gr := by omega
  have hne : gr ≠ g := by omega
  have hlg : w.heap.size ≤ g := by omega
  clear hgr hR0 hs0 hb1 hg1 hU0
  go_wp2_with fail
  refine (l2Any_any hC1).mono ?_
  rintro e w2 ⟨v, rfl, ⟨N, A, m, d, X, rfl, ho, hX⟩, hC2, hg2⟩
  have hlt := hC1.lt
  have hs2 := hg2.size
  have hR2 := hR1.grown hg2 (fun e => hne (by injection e))
  have hU2 := hU1.grown hg2 hU1.size (fun k hk => by injection hk with hk; omega)
  have hU3 : Up w2 (w2.alloc (.cells #[.int .i64 N, .slice A m d] 29)) := by go_grown
  have hltr := hR2.lt
  have I : DB w g B n c bs gr w2.heap.size N A m d X (w2.alloc (.cells #[.int .i64 N, .slice A m d] 29)) :=
    ⟨hC2.up hU3, hR2.up hU3, Blk.new _ _ _, (ho.more (by omega)).up hU3, Up.then_ hU2 hU3, hgr', hlg, hne, by omega, by omega⟩
  clear hR1 hU1 hC1 hR2 hU2 hU3 hC2 hg2 ho hltr
  obtain ⟨gb, hgb⟩ : ∃ gb, gb = w2.heap.size := ⟨_, rfl⟩
  rw [← hgb] at I
  go_wp2_with fail
  rw [← hgb]
  generalize w2.alloc (.cells #[.int .i64 N, .slice A m d] 29) = w3 at I ⊢
  clear hgb hs2 hlt
  have hy := I.box.two
  have hlb := I.box.lt
  have hgs := I.cur.lt
  have hyr := I.res.two
  have hf0 := I.res.frozen 0
  have hf1 := I.res.frozen 1
  go_wp2_with fail
  go_region_with (refine (l3Set_any (I.up (Below.drew (Up.refl _))).cur N A m d).mono ?_; rintro e w8 ⟨v, rfl, ⟨z, rfl⟩, hC8, hg8⟩; have I8 := (I.up (Below.drew (Up.refl _))).dr hC8 hg8; have hy8 := I8.box.two; have hyr8 := I8.res.two; have hf80 := I8.res.frozen 0; have hf81 := I8.res.frozen 1)
  all_goals
    clear hy hyr hf0 hf1
    obtain ⟨f1, f2, f3, f4⟩ := I8.fin
    have hfin := f3.two
    clear I8 I f3 f4 hyr8 hf80 hf81 hy8
    go_wp2
    generalize (w8.setCell ⟨gr, 0, none⟩ (.int .i64 N)).setCell ⟨gr, 1, none⟩ (.slice A m d) = Wf at f1 f2 hfin ⊢
    refine bodyPost_ret (v := .tuple #[.agg #[.int .i64 N, .slice A m d], .int .i64 z]) ?_ rfl ?_
    · simp [results, Tryz.results93, go_sem, hfin]
    exact ⟨N, A, m, d, X, z, rfl, f1, hX, f2⟩
end Go.Proofs.YthncdjcmlpiebaaGreatDoor
namespace Go.Proofs.YthncdjcmlpiebaaGreatDoor
open Go.RowKit
set_option maxRecDepth 100000 in
theorem drawIsMinimalSeparator_any (B : Option Addr) (n c : Nat) (bs : List Int) (w : World) (hB : RB w B n bs) (hn : n ≤ 1048576) (hlow : ∀ ad, B = some ad → ad.block < w.heap.size) :
    Calls Tryz.prog 42 #[.slice B n c] w (GraphZ le6 w) := by
  have hU0 : Up w (w.alloc (.cells #[.int .i64 0, .slice none 0 0] 29)) := by go_grown
  have hR0 := Blk.new w 29 #[.int .i64 0, .slice none 0 0]
  have hs0 : (w.alloc (.cells #[.int .i64 0, .slice none 0 0] 29)).heap.size = w.heap.size + 1 := by simp
  obtain ⟨gr, hgr⟩ : ∃ gr, gr = w.heap.size := ⟨_, rfl⟩
  go_enter Tryz.func42, Tryz.ntmps42
  go_wp2_with fail
  refine (l3Both_any B n c bs _ (hB.up hU0) hn (fun ad e => by have := hlow ad e; omega)).mono ?_
  rintro e w1 ⟨N, A, m, d, X, z, rfl, hO1, hX, hb1⟩
  have hR1 := hR0.up hb1
  have hU1 := Up.then_ hU0 hb1
  have hs1 := hb1.size
  have hO2 := hO1.more (base' := w.heap.size) (by omega)
  have hU3 : Up w1 (w1.alloc (.cells #[.int .i64 N, .slice A m d] 29)) := by go_grown
  have hy3 := (Blk.new w1 29 #[.int .i64 N, .slice A m d]).two
  have hR3 := hR1.up hU3
  have hO3 := hO2.up hU3
  have hU4 := Up.then_ hU1 hU3
  rw [← hgr] at hR3 ⊢
  have hgr' : w.heap.size ≤ gr := by omega
  have hne : gr ≠ w1.heap.size := by omega
  clear hgr
  generalize hw3 : w1.alloc (.cells #[.int .i64 N, .slice A m d] 29) = w3 at hy3 hR3 hO3 hU4
  clear hU3 hR1 hU1 hO1 hO2 hb1 hU0 hR0 hs1 hs0
  have hyr := hR3.two
  have hf0 := hR3.frozen 0
  have hf1 := hR3.frozen 1
  have fo := (hO3.other_store (i := 0) hR3 (by decide) (.int .i64 N)).other_store (i := 1) (hR3.set_ 0 (.int .i64 N)) (by decide) (.slice A m d)
  have fb := (hU4.setCell (p := ⟨gr, 0, none⟩) hgr' (.int .i64 N)).setCell (p := ⟨gr, 1, none⟩) hgr' (.slice A m d)
  have hfin := ((hR3.set_ 0 (.int .i64 N)).set_ 1 (.slice A m d)).two
  clear hR3 hO3 hU4
  go_wp2
  clear hw3
  generalize (w3.setCell ⟨gr, 0, none⟩ (.int .i64 N)).setCell ⟨gr, 1, none⟩ (.slice A m d) = Wf at fo fb hfin ⊢
  refine bodyPost_ret (v := .tuple #[.agg #[.int .i64 N, .slice A m d], .int .i64 z]) ?_ rfl ?_
  · simp [results, Tryz.results42, go_sem, hfin]
  exact ⟨N, A, m, d, X, z, rfl, fo, hX, fb⟩
set_option maxRecDepth 100000 in
theorem drawCliqueTreeOf_any (B : Option Addr) (n c : Nat) (bs : List Int) (w : World) (hB : RB w B n bs) (hn : n ≤ 1048576) (hlow : ∀ ad, B = some ad → ad.block < w.heap.size) :
    Calls Tryz.prog 32 #[.slice B n c] w (DG le6 w) := by
  have hU0 : Up w (w.alloc (.cells #[.int .i64 0, .slice none 0 0] 29)) := by go_grown
  have hR0 := Blk.new w 29 #[.int .i64 0, .slice none 0 0]
  have hs0 : (w.alloc (.cells #[.int .i64 0, .slice none 0 0] 29)).heap.size = w.heap.size + 1 := by simp
  obtain ⟨gr, hgr⟩ : ∃ gr, gr = w.heap.size := ⟨_, rfl⟩
  go_enter Tryz.func32, Tryz.ntmps32
  go_wp2_with fail
  refine (l1New_any B n c bs _ (hB.up hU0) hn (fun ad e => by have := hlow ad e; omega)).mono ?_
  rintro e w1 ⟨g, rfl, hC1, hb1, hg1⟩
  have hR1 := hR0.up hb1
  have hU1 := Up.then_ hU0 hb1
  rw [← hgr] at hR1 ⊢
  have hgr' : w.heap.size ≤ gr := by omega
  have hne : gr ≠ g := by omega
  clear hgr
  have hlt := hC1.lt
  go_wp2_with fail
  refine (l8Chordal_any hC1).mono ?_
  rintro e w2 ⟨v, rfl, ⟨N, A, m, d, X, rfl, ho, hX⟩, hC2, hg2⟩
  have hR2 := hR1.grown hg2 (fun e => hne (by injection e))
  have hU2 := hU1.grown hg2 hU1.size (fun k hk => by injection hk with hk; omega)
  have ho2 := ho.more (base' := w.heap.size) (by omega)
  have hyr := hR2.two
  have hf0 := hR2.frozen 0
  have hf1 := hR2.frozen 1
  have fo := (ho2.other_store (i := 0) hR2 (by decide) (.int .i64 N)).other_store (i := 1) (hR2.set_ 0 (.int .i64 N)) (by decide) (.slice A m d)
  have fb := (hU2.setCell (p := ⟨gr, 0, none⟩) hgr' (.int .i64 N)).setCell (p := ⟨gr, 1, none⟩) hgr' (.slice A m d)
  have hfin := ((hR2.set_ 0 (.int .i64 N)).set_ 1 (.slice A m d)).two
  clear hR2 ho2 ho hU2 hC2 hR1 hC1 hg2 hU1 hb1 hU0 hR0
  go_wp2
  generalize (w2.setCell ⟨gr, 0, none⟩ (.int .i64 N)).setCell ⟨gr, 1, none⟩ (.slice A m d) = Wf at fo fb hfin ⊢
  refine bodyPost_ret (v := .agg #[.int .i64 N, .slice A m d]) ?_ rfl ?_
  · simp [results, Tryz.results32, go_sem, hfin]
  exact ⟨N, A, m, d, X, rfl, fo, hX, fb⟩
set_option maxRecDepth 100000 in
theorem drawSeparatorsOf_any (B : Option Addr) (n c : Nat) (bs : List Int) (w : World) (hB : RB w B n bs) (hn : n ≤ 1048576) (hlow : ∀ ad, B = some ad → ad.block < w.heap.size) :
    Calls Tryz.prog 41 #[.slice B n c] w (DG le6 w) := by
  have hU0 : Up w (w.alloc (.cells #[.int .i64 0, .slice none 0 0] 29)) := by go_grown
  have hR0 := Blk.new w 29 #[.int .i64 0, .slice none 0 0]
  have hs0 : (w.alloc (.cells #[.int .i64 0, .slice none 0 0] 29)).heap.size = w.heap.size + 1 := by simp
  obtain ⟨gr, hgr⟩ : ∃ gr, gr = w.heap.size := ⟨_, rfl⟩
  go_enter Tryz.func41, Tryz.ntmps41
  go_wp2_with fail
  refine (l1New_any B n c bs _ (hB.up hU0) hn (fun ad e => by have := hlow ad e; omega)).mono ?_
  rintro e w1 ⟨g, rfl, hC1, hb1, hg1⟩
  have hR1 := hR0.up hb1
  have hU1 := Up.then_ hU0 hb1
  rw [← hgr] at hR1 ⊢
  have hgr' : w.heap.size ≤ gr := by omega
  have hne : gr ≠ g := by omega
  clear hgr
  have hlt := hC1.lt
  go_wp2_with fail
  refine (l8Chordal_any hC1).mono ?_
  rintro e w2 ⟨v, rfl, ⟨N, A, m, d, X, rfl, ho, hX⟩, hC2, hg2⟩
  have hR2 := hR1.grown hg2 (fun e => hne (by injection e))
  have hU2 := hU1.grown hg2 hU1.size (fun k hk => by injection hk with hk; omega)
  have ho2 := ho.more (base' := w.heap.size) (by omega)
  have hyr := hR2.two
  have hf0 := hR2.frozen 0
  have hf1 := hR2.frozen 1
  have fo := (ho2.other_store (i := 0) hR2 (by decide) (.int .i64 N)).other_store (i := 1) (hR2.set_ 0 (.int .i64 N)) (by decide) (.slice A m d)
  have fb := (hU2.setCell (p := ⟨gr, 0, none⟩) hgr' (.int .i64 N)).setCell (p := ⟨gr, 1, none⟩) hgr' (.slice A m d)
  have hfin := ((hR2.set_ 0 (.int .i64 N)).set_ 1 (.slice A m d)).two
  clear hR2 ho2 ho hU2 hC2 hR1 hC1 hg2 hU1 hb1 hU0 hR0
  go_wp2
  generalize (w2.setCell ⟨gr, 0, none⟩ (.int .i64 N)).setCell ⟨gr, 1, none⟩ (.slice A m d) = Wf at fo fb hfin ⊢
  refine bodyPost_ret (v := .agg #[.int .i64 N, .slice A m d]) ?_ rfl ?_
  · simp [results, Tryz.results41, go_sem, hfin]
  exact ⟨N, A, m, d, X, rfl, fo, hX, fb⟩
end Go.Proofs.YthncdjcmlpiebaaGreatDoor
namespace Go.Proofs.YthncdjcmlpiebaaGreatDoor
open Go.RowKit
def lastK (l : List Nat) : Nat → Nat
  | 0 => 0
  | k + 1 => nb l k
theorem nb_lt_all {l : List Nat} {b : Nat} (hb : 0 < b) (h : ∀ x ∈ l, x < b) (k : Nat) : nb l k < b := by
  rcases Nat.lt_or_ge k l.length with hk | hk
  · have e : nb l k = l[k] := by simp [nb, List.getD, List.getElem?_eq_getElem hk]
    rw [e]; exact h _ (List.getElem_mem hk)
  · have e : nb l k = 0 := by simp [nb, List.getD, List.getElem?_eq_none hk]
    rw [e]; exact hb
/-- Vertex v begins anew at place k. -/
def begAt (l : List Nat) (v k : Nat) : Bool := (nb l k).testBit v && !(lastK l k).testBit v
/-- How often v begins in the first k places. -/
def bg (l : List Nat) (v : Nat) : Nat → Nat
  | 0 => 0
  | k + 1 => bg l v k + if begAt l v k then 1 else 0
theorem maxK_mem {Q : List Nat} {n s : Nat} : ∀ {k}, 1 ≤ s → s ≤ k → maxi Q n s = true → s ∈ maxK Q n k
  | 0, h1, h2, _ => by omega
  | k + 1, h1, h2, h3 => by
    rw [maxK, List.mem_append]
    rcases Nat.lt_or_ge k s with h | h
    · obtain rfl : s = k + 1 := by omega
      rw [if_pos h3]
      exact .inr (by simp)
    · exact .inl (maxK_mem h1 h h3)
theorem clqAt_iff {Q : List Nat} {s v : Nat} : clqAt Q s v = true ↔ ∀ i, (s.testBit i && !(nb Q v).testBit i) = decide (v = i) := by
  rw [clqAt, beq_iff_eq]
  constructor
  · intro e i
    have := congrArg (fun x => x.testBit i) e
    simpa only [testBit_dif, Nat.testBit_two_pow] using this
  · intro h
    apply Nat.eq_of_testBit_eq
    intro i
    rw [testBit_dif, Nat.testBit_two_pow, h i]
/-- A clique to which no greater one below 2^n belongs is maximal. -/
theorem top_maxi {n : Nat} {Q : List Nat} (h : GOk n Q) {s : Nat} (hs : s < 2 ^ n) (hc : clq Q s = true) (hno : ∀ t, s < t → t < 2 ^ n → clq Q t = false) : maxi Q n s = true := by
  rw [maxi_yes hc]
  have key : ∀ v, v ≤ n → standsK Q s v = true := by
    intro v
    induction v with
    | zero => intro _; rfl
    | succ v ih =>
      intro hv
      rw [standsK, ih (by omega), Bool.true_and, stands]
      rcases Bool.eq_false_or_eq_true (s.testBit v) with e | e
      · rw [e]; rfl
      · rw [e, Bool.false_or, bne_iff_ne]
        intro hz
        have hsub : ∀ i, s.testBit i = true → (nb Q v).testBit i = true := by
          intro i hi
          have := congrArg (fun x => x.testBit i) hz
          simp only [testBit_dif, Nat.zero_testBit, hi, Bool.true_and] at this
          simpa using this
        have hlt : s < s ||| 2 ^ v := by
          have hd : s &&& 2 ^ v = 0 := by
            apply Nat.eq_of_testBit_eq
            intro i
            rw [Nat.testBit_and, Nat.testBit_two_pow, Nat.zero_testBit]
            by_cases hi : v = i
            · subst hi; rw [e]; rfl
            · simp [hi]
          have := add_of_and hd
          have := Nat.two_pow_pos v
          omega
        have hlt2 : s ||| 2 ^ v < 2 ^ n := Nat.or_lt_two_pow hs (Nat.pow_lt_pow_right (by omega) (by omega))
        have hcl := hno _ hlt hlt2
        have : clq Q (s ||| 2 ^ v) = true := by
          rw [clq_iff]
          intro u hu hb
          rw [Nat.testBit_or, Nat.testBit_two_pow] at hb
          rw [clqAt_iff]
          intro i
          rw [Nat.testBit_or, Nat.testBit_two_pow]
          by_cases huv : v = u
          · subst huv
            by_cases hi : v = i
            · subst hi; simp [h.irr]
            · simp only [hi, decide_false, Bool.or_false]
              rcases Bool.eq_false_or_eq_true (s.testBit i) with e3 | e3
              · rw [e3, hsub i e3]; rfl
              · rw [e3]; rfl
          · have hsu : s.testBit u = true := by simpa [huv] using hb
            have h1 := clqAt_iff.1 (clq_iff.1 hc u hu hsu) i
            by_cases hi : v = i
            · subst hi
              have : (nb Q u).testBit v = true := by rw [h.sym]; exact hsub u hsu
              simp [this, Ne.symm huv]
            · simpa [hi] using h1
        rw [hcl] at this
        cases this
  exact key n (Nat.le_refl _)
theorem top_exists {P : Nat → Bool} : ∀ k, (∃ s, 1 ≤ s ∧ s ≤ k ∧ P s = true) → ∃ s, 1 ≤ s ∧ s ≤ k ∧ P s = true ∧ ∀ t, s < t → t ≤ k → P t = false
  | 0, ⟨s, h1, h2, _⟩ => by omega
  | k + 1, ⟨s, h1, h2, h3⟩ => by
    rcases Bool.eq_false_or_eq_true (P (k + 1)) with e | e
    · exact ⟨k + 1, by omega, Nat.le_refl _, e, fun t h4 h5 => by omega⟩
    · have hs : s ≤ k := by
        rcases Nat.lt_or_ge k s with h | h
        · obtain rfl : s = k + 1 := by omega
          rw [e] at h3; cases h3
        · exact h
      obtain ⟨t, t1, t2, t3, t4⟩ := top_exists k ⟨s, h1, hs, h3⟩
      refine ⟨t, t1, by omega, t3, fun u h4 h5 => ?_⟩
      rcases Nat.lt_or_ge k u with h | h
      · obtain rfl : u = k + 1 := by omega
        exact e
      · exact t4 u h4 h
theorem clq_single {n : Nat} {Q : List Nat} (h : GOk n Q) : clq Q 1 = true := by
  rw [clq_iff]
  intro v _ hb
  have hv : v = 0 := by
    have h1 : (1 : Nat) = 2 ^ 0 := rfl
    rw [h1, Nat.testBit_two_pow] at hb
    simpa using (of_decide_eq_true hb).symm
  subst hv
  rw [clqAt_iff]
  intro i
  have h1 : (1 : Nat) = 2 ^ 0 := rfl
  rw [h1, Nat.testBit_two_pow]
  by_cases hi : 0 = i
  · subst hi; simp [h.irr]
  · simp [hi]
theorem maxCliques_pos {n : Nat} {Q : List Nat} (h : GOk n Q) : 0 < (maxCliques Q n).length := by
  have hp := full_pos h.pos
  obtain ⟨s, h1, h2, h3, h4⟩ := top_exists (P := clq Q) (2 ^ n - 1) ⟨1, by omega, by omega, clq_single h⟩
  have hm : maxi Q n s = true := top_maxi h (by have := Nat.two_pow_pos n; omega) h3 fun t ht1 ht2 => h4 t ht1 (by omega)
  exact List.length_pos_of_mem (maxK_mem h1 h2 hm)
theorem maxCliques_lt {n : Nat} {Q : List Nat} {s : Nat} (h : s ∈ maxCliques Q n) : s < 2 ^ n := by
  have := (mem_maxK h).2.1
  have := Nat.two_pow_pos n
  omega
theorem maxK_nodup (Q : List Nat) (n : Nat) : ∀ k, (maxK Q n k).Nodup
  | 0 => by simp [maxK]
  | k + 1 => by
    rw [maxK, List.nodup_append]
    refine ⟨maxK_nodup Q n k, by split <;> simp, fun a ha b hb e => ?_⟩
    have := (mem_maxK ha).2.1
    split at hb
    · have : b = k + 1 := by simpa using hb
      omega
    · cases hb
theorem maxK_sorted (Q : List Nat) (n : Nat) : ∀ k, (maxK Q n k).Pairwise (· ≤ ·)
  | 0 => by simp [maxK]
  | k + 1 => by
    rw [maxK, List.pairwise_append]
    refine ⟨maxK_sorted Q n k, by split <;> simp, fun a ha b hb => ?_⟩
    have := (mem_maxK ha).2.1
    split at hb
    · have : b = k + 1 := by simpa using hb
      omega
    · cases hb
end Go.Proofs.YthncdjcmlpiebaaGreatDoor
namespace Go.Proofs.YthncdjcmlpiebaaGreatDoor
/-- What is best so far: a clique, its parent's place, how many vertices they have in common. -/
abbrev Best := Option (Nat × Nat × Nat)
def mostB : Best → Int
  | none => -1
  | some s => (s.2.2 : Nat)
def cliqB (z : Int) : Best → Int
  | none => z
  | some s => (s.1 : Nat)
def parB (z : Int) : Best → Int
  | none => z
  | some s => (s.2.1 : Nat)
def comm (L bags : List Nat) (i k : Nat) : Nat := card (nb L k &&& nb bags i)
def pickB (L bags : List Nat) (i : Nat) (st : Best) (k : Nat) : Best := if !decide (nb L k ∈ bags) && decide (mostB st < (comm L bags i k : Nat)) then some (nb L k, i, comm L bags i k) else st
theorem pickB_in {L bags : List Nat} {i k : Nat} {st : Best} (h : decide (nb L k ∈ bags) = true) : pickB L bags i st k = st := by rw [pickB, h]; rfl
theorem pickB_few {L bags : List Nat} {i k : Nat} {st : Best} (h : ¬ mostB st < (comm L bags i k : Nat)) : pickB L bags i st k = st := by rw [pickB, decide_eq_false h, Bool.and_false]; rfl
theorem pickB_new {L bags : List Nat} {i k : Nat} {st : Best} (h : decide (nb L k ∈ bags) = false) (h2 : mostB st < (comm L bags i k : Nat)) : pickB L bags i st k = some (nb L k, i, comm L bags i k) := by rw [pickB, h, decide_eq_true h2]; rfl
def rowB (L bags : List Nat) (i : Nat) (st : Best) : Nat → Best
  | 0 => st
  | k + 1 => pickB L bags i (rowB L bags i st k) k
def allB (L bags : List Nat) : Nat → Best
  | 0 => none
  | i + 1 => rowB L bags i (allB L bags i) L.length
theorem pickB_some {L bags : List Nat} {i k : Nat} {st : Best} (h : st.isSome = true) : (pickB L bags i st k).isSome = true := by
  rw [pickB]; split
  · rfl
  · exact h
theorem rowB_found {L bags : List Nat} {i j : Nat} {st : Best} (hj : nb L j ∉ bags) : ∀ k, j < k → (rowB L bags i st k).isSome = true
  | 0, h => by omega
  | k + 1, h => by
    rw [rowB]
    rcases Nat.lt_succ_iff_lt_or_eq.1 h with h' | rfl
    · exact pickB_some (rowB_found hj k h')
    · rcases hs : rowB L bags i st j with _ | s
      · rw [pickB, decide_eq_false hj, decide_eq_true (show mostB none < (comm L bags i j : Nat) by show (-1 : Int) < _; omega)]; rfl
      · exact pickB_some rfl
theorem allB_found {L bags : List Nat} {j : Nat} (hj : nb L j ∉ bags) (hjl : j < L.length) : ∀ i, 0 < i → (allB L bags i).isSome = true
  | 0, h => by omega
  | i + 1, _ => by rw [allB]; exact rowB_found hj _ hjl
theorem pickB_mem {L bags : List Nat} {i k : Nat} {st : Best} {s : Nat × Nat × Nat} (hk : k < L.length) (hst : ∀ s, st = some s → s.1 ∈ L ∧ s.2.1 < bags.length) (hi : i < bags.length) (h : pickB L bags i st k = some s) : s.1 ∈ L ∧ s.2.1 < bags.length := by
  rw [pickB] at h
  split at h
  · injection h with h
    subst h
    refine ⟨?_, hi⟩
    have e : nb L k = L[k] := by simp [nb, List.getD, List.getElem?_eq_getElem hk]
    show nb L k ∈ L
    rw [e]; exact List.getElem_mem hk
  · exact hst s h
theorem rowB_mem {L bags : List Nat} {i : Nat} {st : Best} (hst : ∀ s, st = some s → s.1 ∈ L ∧ s.2.1 < bags.length) (hi : i < bags.length) : ∀ k, k ≤ L.length → ∀ s, rowB L bags i st k = some s → s.1 ∈ L ∧ s.2.1 < bags.length
  | 0, _, s, h => hst s h
  | k + 1, hk, s, h => pickB_mem (by omega) (rowB_mem hst hi k (by omega)) hi h
theorem allB_mem {L bags : List Nat} : ∀ i, i ≤ bags.length → ∀ s, allB L bags i = some s → s.1 ∈ L ∧ s.2.1 < bags.length
  | 0, _, s, h => by cases h
  | i + 1, hi, s, h => rowB_mem (allB_mem i (by omega)) (by omega) _ (Nat.le_refl _) s h
/-- The tree behind m steps. -/
def ctB (L : List Nat) : Nat → List Nat × List Int
  | 0 => ([nb L 0], [-1])
  | m + 1 => match allB L (ctB L m).1 (ctB L m).1.length with
    | some s => ((ctB L m).1 ++ [s.1], (ctB L m).2 ++ [(s.2.1 : Int)])
    | none => ctB L m
theorem ctB_step {L : List Nat} {m : Nat} {s : Nat × Nat × Nat} (h : allB L (ctB L m).1 (ctB L m).1.length = some s) : ctB L (m + 1) = ((ctB L m).1 ++ [s.1], (ctB L m).2 ++ [(s.2.1 : Int)]) := by rw [ctB, h]
theorem fresh_exists {L bags : List Nat} (hL : L.Nodup) (h : bags.length < L.length) : ∃ j, j < L.length ∧ nb L j ∉ bags := by
  refine Classical.byContradiction fun hno => ?_
  have hs : L ⊆ bags := by
    intro x hx
    obtain ⟨j, hj, rfl⟩ := List.mem_iff_getElem.1 hx
    have e : nb L j = L[j] := by simp [nb, List.getD, List.getElem?_eq_getElem hj]
    rw [← e]
    exact Classical.byContradiction fun hn => hno ⟨j, hj, hn⟩
  have := hL.length_le_of_subset hs
  omega
theorem ctB_spec {L : List Nat} (hL : L.Nodup) {b : Nat} (hb : 0 < b) (hlt : ∀ x ∈ L, x < b) : ∀ m, m + 1 ≤ L.length → (ctB L m).1.length = m + 1 ∧ (ctB L m).2.length = m + 1 ∧ (∀ x ∈ (ctB L m).1, x < b) ∧ ∃ s, m + 1 < L.length → allB L (ctB L m).1 (ctB L m).1.length = some s
  | 0, h => by
    refine ⟨rfl, rfl, ?_, ?_⟩
    · intro x hx
      have : x = nb L 0 := by simpa [ctB] using hx
      rw [this]; exact nb_lt_all hb hlt 0
    · by_cases h1 : 1 < L.length
      · obtain ⟨j, hj, hn⟩ := fresh_exists (bags := [nb L 0]) hL h1
        have := allB_found hn hj (ctB L 0).1.length (by simp [ctB])
        rcases hs : allB L (ctB L 0).1 (ctB L 0).1.length with _ | s
        · rw [show allB L [nb L 0] (ctB L 0).1.length = none from hs] at this; cases this
        · exact ⟨s, fun _ => rfl⟩
      · exact ⟨(0, 0, 0), fun h2 => absurd h2 (by omega)⟩
  | m + 1, h => by
    obtain ⟨h1, h2, h3, s, h4⟩ := ctB_spec hL hb hlt m (by omega)
    have hs := h4 (by omega)
    have hmem := allB_mem _ (Nat.le_refl _) s hs
    have e := ctB_step hs
    have hl1 : (ctB L (m + 1)).1.length = m + 1 + 1 := by rw [e]; simp [h1]
    refine ⟨hl1, by rw [e]; simp [h2], ?_, ?_⟩
    · rw [e]
      intro x hx
      rcases List.mem_append.1 hx with hx | hx
      · exact h3 x hx
      · have : x = s.1 := by simpa using hx
        rw [this]; exact hlt _ hmem.1
    · by_cases h5 : m + 1 + 1 < L.length
      · obtain ⟨j, hj, hn⟩ := fresh_exists (bags := (ctB L (m + 1)).1) hL (by omega)
        have := allB_found hn hj (ctB L (m + 1)).1.length (by omega)
        rcases hs : allB L (ctB L (m + 1)).1 (ctB L (m + 1)).1.length with _ | s
        · rw [hs] at this; cases this
        · exact ⟨s, fun _ => rfl⟩
      · exact ⟨(0, 0, 0), fun h6 => absurd h6 (by omega)⟩
end Go.Proofs.YthncdjcmlpiebaaGreatDoor
