/- Walks of chapter 6: a graph filled along an order, the reference's. -/
import Derived.Test.YthncdjcmlpiebaaDr4
import Derived.Test.YthncdjcmlpiebaaW6B
import Derived.Test.YthncdjcmlpiebaaPurG
namespace Go.Proofs.Ythncdjcmlpiebaa
open Go.RowKit
/-- A graph's rows, a list of vertices beside. -/
theorem GN.store {w : World} {gr gb m : Nat} {wr : World} {A d : Nat} {Q : List Nat} (I : GN w gr gb m wr A d Q) {b n c : Nat} {B : Option Addr} {xs : List Int} (ho : OwnI wr b B n c xs) (A' d' : Nat) :
    OwnI ((wr.setCell ⟨gb, 0, none⟩ (.int .i64 m)).setCell ⟨gb, 1, none⟩ (.slice (some ⟨A', 0, none⟩) m d')) b B n c xs :=
  (ho.other_store (i := 0) I.box (by decide) (.int .i64 m)).other_store (i := 1) (I.box.set_ 0 (.int .i64 m)) (by decide) (.slice (some ⟨A', 0, none⟩) m d')
theorem graph_outF {N : Int} {n : Nat} {Q : List Nat} {b : Bool} {w : World} {e : Ending} {w' : World} (h : GivesGB N (ints Q) b w e w') (hl : Q.length = n) (h0 : 0 < n) :
    ∃ g d, e = .returned (.tuple #[.agg #[.int .i64 N, .slice (some ⟨g, 0, none⟩) n d], .bool b]) ∧ OwnI w' w.heap.size (some ⟨g, 0, none⟩) n d (ints Q) ∧ Below w.heap.size w w' := by
  obtain ⟨B, d, rfl, hown, hb⟩ := h
  have e : (ints Q).length = n := by rw [ints_len, hl]
  rw [e] at hown ⊢
  obtain ⟨g, rfl⟩ := hown.form h0
  exact ⟨g, d, rfl, hown, hb⟩
theorem specListOf_outF {s : Nat} {w : World} (hs : s < 128) : Calls Try.prog 90 #[.int .i64 s] w fun e w' => ∃ B d, e = .returned (.slice B (listOf s).length d) ∧ OwnI w' w.heap.size B (listOf s).length d (ints (listOf s)) ∧ Below w.heap.size w w' :=
  (specListOf_any s w hs).mono fun _ _ h => h.out
set_option maxRecDepth 100000 in
set_option maxHeartbeats 4000000 in
theorem l6Filled_any (A B : Option Addr) (n c d : Nat) (Q o : List Nat) (w : World) (hX : RI w A n (ints Q)) (hL : RI w B n (ints o)) (h : GOk n Q) (ho : natVerts n o) (hol : o.length = n) :
    Calls Try.prog 82 #[.agg #[.int .i64 n, .slice A n c], .slice B n d] w fun e w' => ∃ g' d', e = .returned (.agg #[.int .i64 n, .slice (some ⟨g', 0, none⟩) n d']) ∧ OwnI w' w.heap.size (some ⟨g', 0, none⟩) n d' (ints (fillK Q o n)) ∧ Below w.heap.size w w' := by
  have hn7 := h.le
  have hn1 := h.pos
  obtain ⟨ad, rfl, hab, _⟩ := hX.addr hn1
  obtain ⟨bd, rfl, hbb, _⟩ := hL.addr hn1
  have hU0 : Up w ((w.alloc (.cells #[.int .i64 n, .slice (some ad) n c] 26)).alloc (.cells #[.int .i64 0, .slice none 0 0] 26)) := by go_grown
  have hR0 : Blk ((w.alloc (.cells #[.int .i64 n, .slice (some ad) n c] 26)).alloc (.cells #[.int .i64 0, .slice none 0 0] 26)) (w.heap.size + 1) 26 #[.int .i64 0, .slice none 0 0] := Blk.new_at (by simp)
  have hz0 : ((w.alloc (.cells #[.int .i64 n, .slice (some ad) n c] 26)).alloc (.cells #[.int .i64 0, .slice none 0 0] 26)).heap.size = w.heap.size + 2 := by simp
  go_enter Try.func82, Try.ntmps82
  go_wp2_with fail
  refine (l2Copy_nat ad n c Q _ (hX.up hU0) h.len hn1 (by omega)).mono ?_
  rintro e w1 ⟨A1, d1, rfl, hO1, hb1, hA1⟩
  have hs1 := hb1.size
  have hU1 : Up w1 (w1.alloc (.cells #[.int .i64 n, .slice (some ⟨A1, 0, none⟩) n d1] 26)) := by go_grown
  have I0 : GN w (w.heap.size + 1) w1.heap.size n (w1.alloc (.cells #[.int .i64 n, .slice (some ⟨A1, 0, none⟩) n d1] 26)) A1 d1 Q :=
    ⟨(hR0.up hb1).up hU1, Blk.new _ _ _, (hO1.more (by omega)).up hU1, h, Up.then_ (Up.then_ hU0 hb1) hU1, by omega, by omega, by omega⟩
  obtain ⟨gr, hgr⟩ : ∃ gr, gr = w.heap.size + 1 := ⟨_, rfl⟩
  obtain ⟨gb, hgb⟩ : ∃ gb, gb = w1.heap.size := ⟨_, rfl⟩
  rw [← hgr, ← hgb] at I0
  go_wp2_with fail
  rw [← hgr, ← hgb]
  generalize w1.alloc (.cells #[.int .i64 n, .slice (some ⟨A1, 0, none⟩) n d1] 26) = w2 at I0 ⊢
  clear hgr hgb hU1 hO1 hb1 hR0 hU0 hz0 hs1 hA1
  have HO := Lib.hid ho
  have HOL := Lib.hid hol
  have HK := Lib.hid fun k => fillK_ok (o := o) h k
  have hLw := Lib.hid hL
  have HF0 := Lib.hid (show fillK Q o 0 = Q from rfl)
  clear ho hol hX hab
  go_loopw [6] (fun v wr => ∃ (k A d : Nat), k ≤ n ∧ v = .int .i64 k ∧ GN w gr gb n wr A d (fillK Q o k)) (fun v _ => n - (intOf v).toNat)
  case atStart => exact ⟨0, _, _, Nat.zero_le _, rfl, by rw [HF0.out]; exact I0⟩
  case round =>
    clear I0 hL
    obtain ⟨k, A, d', hk, rfl, I⟩ := hrel
    obtain ⟨wo, rfl⟩ : ∃ wo : World, wo = wr := ⟨_, rfl⟩
    by_cases hkn : k < n
    · have hkv := HO.out.at_ (j := k) (by rw [HOL.out]; exact hkn)
      have hLo := hLw.out.up I.bel
      have hc := hLo.nbs hkn
      have hbd : bd.block < wo.heap.size := by have := I.bel.size; omega
      have hX' := I.own.ri
      obtain ⟨v, hv⟩ : ∃ v, v = nb o k := ⟨_, rfl⟩
      obtain ⟨Qk, hQk⟩ : ∃ Qk, Qk = fillK Q o k := ⟨_, rfl⟩
      have HNx : fillK Q o (k + 1) = joinG Qk (ltr Qk o v) := by rw [hQk, hv]; rfl
      have hqk : GOk n Qk := by rw [hQk]; exact HK.out k
      obtain ⟨L, hLt⟩ : ∃ L, L = ltr Qk o v := ⟨_, rfl⟩
      have hLl : ∀ i, L.testBit i = true → i < n := by rw [hLt]; exact ltr_low hqk o v
      have hL2 : L < 2 ^ n := by
        refine Nat.lt_pow_two_of_testBit _ fun i hi => ?_
        rw [← Bool.not_eq_true]
        exact fun e => by have := hLl i e; omega
      have hL7 : L < 128 := hqk.n7 hL2
      rw [← hv] at hc hkv
      rw [← hQk] at I hX'
      have HLa := Lib.hid (show laterOf n (ints Qk) (ints o) v = L by rw [laterOf_ok (isOrder_nat hqk HO.out HOL.out) hkv, hLt])
      rw [← hLt, ← joinA_joinG hqk hLl] at HNx
      have HN := Lib.hid HNx
      have HAk := Lib.hid fun a ha => (joinA_ok hqk hLl a ha).1
      have HLI := Lib.hid fun x (hx : x < (listOf L).length) => hLl _ (listOf_nb hx).2
      have HNE := Lib.hid fun x y (hy : y < x) (hx : x < (listOf L).length) => listOf_asc hy hx
      have HQK := Lib.hid hqk
      clear hv hQk hLt HNx hLl hL2
      have hy := I.box.two
      have hlb := I.box.lt
      go_wp2_with fail
      have hV0 : Up wo wo.drew := (Up.refl _).drew
      refine wp_region_held_drew (S := (fun w' => Up wo w' ∧ (∀ b o, b < wo.heap.size → w'.cell? ⟨b, o, none⟩ = wo.cell? ⟨b, o, none⟩) ∧ w'.cell? (bd.add k) = some (.int .i64 (v : Nat)))) (by kernel_rfl) (by exact ⟨hV0, fun _ _ hb => hV0.cell hb, (hV0.cell (by first | assumption | (rw [block_of_add]; assumption))).trans (by assumption)⟩) (fun hHeld => ?_)
      refine wpAnyH_take (i := 0) (v := ?_) rfl (by kernel_rfl) (by kernel_rfl) (by kernel_rfl) (fun _ _ _ h => h) (Or.inl ⟨by rfl, ?_⟩) (by assumption) ?_
      rotate_left
      · (intro w' hSw; go_simp; try with_reducible rfl)
      (try simp only [List.getElem_toArray]); (try simp only [List.getElem_cons_succ]); (try simp only [List.getElem_cons_zero]); (try simp only [Act.put]); (try simp only [List.setIfInBounds_toArray]); (try simp only [List.set_cons_succ]); (try simp only [List.set_cons_zero])
      refine wpAnyH_take (i := 1) (v := ?_) rfl (by kernel_rfl) (by kernel_rfl) (by kernel_rfl) (fun _ _ _ h => h) (Or.inl ⟨by rfl, ?_⟩) (by assumption) ?_
      rotate_left
      · (intro w' hSw; go_simp; try with_reducible rfl)
      (try simp only [List.getElem_toArray]); (try simp only [List.getElem_cons_succ]); (try simp only [List.getElem_cons_zero]); (try simp only [Act.put]); (try simp only [List.setIfInBounds_toArray]); (try simp only [List.set_cons_succ]); (try simp only [List.set_cons_zero])
      refine wpAnyH_take (i := 2) (v := ?_) rfl (by kernel_rfl) (by kernel_rfl) (by kernel_rfl) (fun _ _ _ h => h) (Or.inl ⟨by rfl, ?_⟩) (by assumption) ?_
      rotate_left
      · (intro w' hSw; go_simp; try with_reducible rfl)
      (try simp only [List.getElem_toArray]); (try simp only [List.getElem_cons_succ]); (try simp only [List.getElem_cons_zero]); (try simp only [Act.put]); (try simp only [List.setIfInBounds_toArray]); (try simp only [List.set_cons_succ]); (try simp only [List.set_cons_zero])
      refine wpAnyH_take (i := 3) (v := ?_) rfl (by kernel_rfl) (by kernel_rfl) (by kernel_rfl) (fun _ _ _ h => h) (Or.inl ⟨by rfl, ?_⟩) (by assumption) ?_
      rotate_left
      · (intro w' hSw; go_simp; try with_reducible rfl)
      (try simp only [List.getElem_toArray]); (try simp only [List.getElem_cons_succ]); (try simp only [List.getElem_cons_zero]); (try simp only [Act.put]); (try simp only [List.setIfInBounds_toArray]); (try simp only [List.set_cons_succ]); (try simp only [List.set_cons_zero])
      refine wpAnyH_take (i := 4) (v := ?_) rfl (by kernel_rfl) (by kernel_rfl) (by kernel_rfl) (fun _ _ _ h => h) (Or.inl ⟨by rfl, ?_⟩) (by assumption) ?_
      rotate_left
      · (intro w' hSw; go_simp; try with_reducible rfl)
      (try simp only [List.getElem_toArray]); (try simp only [List.getElem_cons_succ]); (try simp only [List.getElem_cons_zero]); (try simp only [Act.put]); (try simp only [List.setIfInBounds_toArray]); (try simp only [List.set_cons_succ]); (try simp only [List.set_cons_zero])
      refine wpAnyH_take (i := 5) (v := ?_) rfl (by kernel_rfl) (by kernel_rfl) (by kernel_rfl) (fun _ _ _ h => h) (Or.inl ⟨by rfl, ?_⟩) (by assumption) ?_
      rotate_left
      · (intro w' hSw; go_simp; try with_reducible rfl)
      (try simp only [List.getElem_toArray]); (try simp only [List.getElem_cons_succ]); (try simp only [List.getElem_cons_zero]); (try simp only [Act.put]); (try simp only [List.setIfInBounds_toArray]); (try simp only [List.set_cons_succ]); (try simp only [List.set_cons_zero])
      refine wpAnyH_ready (rs := [6]) (by kernel_rfl) (by simp) ?_
      refine AllReadyH.cons rfl (fun K hK => ?_) AllReadyH.nil
      go_simp
      go_at_call 44
      refine (specLater_is (hX'.up hV0) (hLo.up hV0) (by omega) (by omega) HLa.out).mono ?_
      rintro e w50 ⟨rfl, hb50⟩
      have hV1 := Up.then_ hV0 hb50
      go_wp2_with fail
      refine hK.out _ _ (by exact ⟨hV1, fun _ _ hb => hV1.cell hb, (hV1.cell (by first | assumption | (rw [block_of_add]; assumption))).trans (by assumption)⟩) (fun hHeld1 => ?_)
      clear hK K
      (try simp only [List.getElem_toArray]); (try simp only [List.getElem_cons_succ]); (try simp only [List.getElem_cons_zero]); (try simp only [Act.put]); (try simp only [List.setIfInBounds_toArray]); (try simp only [List.set_cons_succ]); (try simp only [List.set_cons_zero])
      refine wpAnyH_ready (rs := [7]) (by kernel_rfl) (by simp) ?_
      refine AllReadyH.cons rfl (fun K hK => ?_) AllReadyH.nil
      go_simp
      go_at_call 90
      refine (specListOf_outF hL7).mono ?_
      rintro e w51 ⟨B3, d3, rfl, hO3, hb51⟩
      have hV2 := Up.then_ hV1 hb51
      go_wp2_with fail
      refine hK.out _ _ (by exact ⟨hV2, fun _ _ hb => hV2.cell hb, (hV2.cell (by first | assumption | (rw [block_of_add]; assumption))).trans (by assumption)⟩) (fun hHeld2 => ?_)
      clear hK K
      (try simp only [List.getElem_toArray]); (try simp only [List.getElem_cons_succ]); (try simp only [List.getElem_cons_zero]); (try simp only [Act.put]); (try simp only [List.setIfInBounds_toArray]); (try simp only [List.set_cons_succ]); (try simp only [List.set_cons_zero])
      refine wpAnyH_take (i := 8) (v := ?_) rfl (by kernel_rfl) (by kernel_rfl) (by kernel_rfl) (fun _ _ _ h => h) (Or.inl ⟨by rfl, ?_⟩) (by assumption) ?_
      rotate_left
      · (intro w' hSw; go_simp; try with_reducible rfl)
      (try simp only [List.getElem_toArray]); (try simp only [List.getElem_cons_succ]); (try simp only [List.getElem_cons_zero]); (try simp only [Act.put]); (try simp only [List.setIfInBounds_toArray]); (try simp only [List.set_cons_succ]); (try simp only [List.set_cons_zero])
      refine wpAnyH_done (by kernel_rfl) ?_ _
      have hU5 := hV2
      replace hO3 := hO3.more (base' := w.heap.size) (by have := I.bel.size; have := hV1.size; omega)
      replace I := I.up hU5
      obtain ⟨w3, hw3⟩ : ∃ w3, w3 = w51 := ⟨_, rfl⟩
      rw [← hw3] at I hO3 ⊢
      clear hw3 hy hlb hV0 hV1 hV2 hb50 hb51 hU5 hHeld hHeld1 hHeld2 hc hkv hbd hX' hLo HLa w50 w51
      have hl7 := listOf_len L
      obtain ⟨l, hl⟩ : ∃ l, l = listOf L := ⟨_, rfl⟩
      rw [← hl] at HN HAk HLI HNE hl7 hO3 ⊢
      clear hl
      have HA0 := Lib.hid (show joinA Qk l 0 = Qk from rfl)
      go_wp2_with fail
      go_loopw [8] (fun v wr => ∃ (i A d' : Nat), i ≤ l.length ∧ v = .int .i64 i ∧ GN w gr gb n wr A d' (joinA Qk l i) ∧ OwnI wr w.heap.size B3 l.length d3 (ints l)) (fun v _ => l.length - (intOf v).toNat)
      case atStart => exact ⟨0, _, _, Nat.zero_le _, rfl, by rw [HA0.out]; exact I, hO3⟩
      case round =>
        clear I hO3
        obtain ⟨i, A, d', hi, rfl, I, hO3⟩ := hrel
        obtain ⟨wi, rfl⟩ : ∃ wi : World, wi = wr := ⟨_, rfl⟩
        by_cases hil : i < l.length
        · have HNi := Lib.hid (show joinA Qk l (i + 1) = joinB (joinA Qk l i) l i i from rfl)
          have HQi := Lib.hid (HAk.out i hi)
          obtain ⟨Qi, hQi⟩ : ∃ Qi, Qi = joinA Qk l i := ⟨_, rfl⟩
          rw [← hQi] at I HNi HQi
          clear hQi
          have HB0 := Lib.hid (show joinB Qi l i 0 = Qi from rfl)
          have HBk := Lib.hid fun b (hb : b ≤ i) => (joinB_ok HQi.out (a := i) (HLI.out i hil) b fun y hy => ⟨HLI.out y (by omega), fun e => HNE.out i y (by omega) hil e.symm⟩).1
          go_wp2_with fail
          go_loopw [9] (fun v wr => ∃ (j A d' : Nat), j ≤ i ∧ v = .int .i64 j ∧ GN w gr gb n wr A d' (joinB Qi l i j) ∧ OwnI wr w.heap.size B3 l.length d3 (ints l)) (fun v _ => i - (intOf v).toNat)
          case atStart => exact ⟨0, _, _, Nat.zero_le _, rfl, by rw [HB0.out]; exact I, hO3⟩
          case round =>
            clear I hO3
            obtain ⟨j, A, d', hj, rfl, I, hO3⟩ := hrel
            obtain ⟨wj, rfl⟩ : ∃ wj : World, wj = wr := ⟨_, rfl⟩
            by_cases hji : j < i
            · have hjl : j < l.length := by omega
              have HS := Lib.hid (show joinB Qi l i (j + 1) = addE (joinB Qi l i j) (nb l i) (nb l j) from rfl)
              have hT := HBk.out j hj
              obtain ⟨T, hTT⟩ : ∃ T, T = joinB Qi l i j := ⟨_, rfl⟩
              rw [← hTT] at I HS hT
              clear hTT
              obtain ⟨ad3, rfl, hcv⟩ := hO3.ri.nb_at hil
              have hcx := hO3.ri.nbs hjl
              have hvn := HLI.out i hil
              have hxn := HLI.out j hjl
              have hne := HNE.out i j hji hil
              obtain ⟨v, hv⟩ : ∃ v, v = nb l i := ⟨_, rfl⟩
              rw [← hv] at hcv hvn hne HS
              clear hv
              obtain ⟨y, hy⟩ : ∃ y, y = nb l j := ⟨_, rfl⟩
              rw [← hy] at hcx hxn hne HS
              clear hy
              have hyb := I.box.two
              go_wp2_with fail
              have hyb2 : wj.drew.cell? ⟨gb, 0, none⟩ = some (.int .i64 n) ∧ wj.drew.cell? ⟨gb, 1, none⟩ = some (.slice (some ⟨A, 0, none⟩) n d') := hyb
              have hcv2 : wj.drew.cell? (ad3.add i) = some (.int .i64 v) := hcv
              have hcx2 : wj.drew.cell? (ad3.add j) = some (.int .i64 y) := hcx
              go_region_with (refine ((addEdge_ok ⟨A, 0, none⟩ n d' v y T _ I.own.drew.ri hT hvn hxn (fun e => hne e.symm)).mono fun e w' hg => graph_outF hg (by rw [addE_len, hT.len]) (by omega)).mono ?_; rintro e w4 ⟨g', d2, rfl, hown4, hb4⟩; have I4 := (I.up (Below.drew (Up.refl _))).up hb4; have hyb4 := I4.box.two; have f0 := I4.box.frozen 0; have f1 := I4.box.frozen 1)
              all_goals
                have hU4 : Up wj w4 := Up.then_ (Below.drew (Up.refl _)) hb4
                have hO4 := hO3.up hU4
                have I5 := I.put hU4 (hown4.more (base' := wj.heap.size) (Nat.le_refl _)) (hT.addE hvn hxn (fun e => hne e.symm))
                rw [← HS.out] at I5
                have hO5 := I4.store hO4 g' d2
                clear hown4 I4 I hO3 hb4 hyb hyb2 hcv2 hcx2 hcv hcx
                go_wp2_with fail
                go_roundw
                case rel => exact ⟨j + 1, g', d2, by omega, by go_num, I5, hO5⟩
                case measure => simp [intOf]; omega
            · obtain rfl : j = i := by omega
              go_wp2
              go_roundw
              case rel => exact ⟨j + 1, A, d', by omega, by go_num, by rw [HNi.out]; exact I, hO3⟩
              case measure => simp [intOf]; omega
        · obtain rfl : i = l.length := by omega
          go_wp2
          go_roundw
          case rel => exact ⟨k + 1, A, d', by omega, by go_num, by rw [HN.out]; exact I⟩
          case measure => simp [intOf]; omega
    · obtain rfl : k = n := by omega
      have hy := I.box.two
      have hfz := I.res.frozen
      have hf0 := hfz 0
      have hf1 := hfz 1
      clear hfz
      have hyr := I.res.two
      have hgr := I.hgr
      have hfin := ((I.res.set_ 0 (.int .i64 (k : Nat))).set_ 1 (.slice (some ⟨A, 0, none⟩) k d')).two
      have o2 := (I.own.other_store (i := 0) I.res (by decide) (.int .i64 (k : Nat))).other_store (i := 1) (I.res.set_ 0 (.int .i64 (k : Nat))) (by decide) (.slice (some ⟨A, 0, none⟩) k d')
      have hb2 := (I.bel.setCell (p := ⟨gr, 0, none⟩) hgr (.int .i64 (k : Nat))).setCell (p := ⟨gr, 1, none⟩) hgr (.slice (some ⟨A, 0, none⟩) k d')
      clear I
      go_wp2
      generalize (wo.setCell ⟨gr, 0, none⟩ (.int .i64 (k : Nat))).setCell ⟨gr, 1, none⟩ (.slice (some ⟨A, 0, none⟩) k d') = Wf at hfin o2 hb2 ⊢
      refine bodyPost_ret (v := .agg #[.int .i64 (k : Nat), .slice (some ⟨A, 0, none⟩) k d']) ?_ rfl ?_
      · simp [results, Try.results82, go_sem, hfin]
      exact ⟨A, d', rfl, o2, hb2⟩
end Go.Proofs.Ythncdjcmlpiebaa
