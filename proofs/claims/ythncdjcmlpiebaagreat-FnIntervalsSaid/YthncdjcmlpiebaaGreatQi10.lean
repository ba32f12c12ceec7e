/- Walks of chapter 6: a graph filled along an order, the reference's. Draws: chordal graphs, mostly. append onto a row of the call's own, the new row's block said; two such appends in one region that draws. -/
import Derived.Test.YthncdjcmlpiebaaGreatQi01
import Derived.Test.YthncdjcmlpiebaaGreatQi06
import Derived.Test.YthncdjcmlpiebaaGreatQi07
import Derived.Test.YthncdjcmlpiebaaGreatQi08
import Derived.Test.YthncdjcmlpiebaaGreatQi09
import Derived.Deep.RegionLaw
import Derived.Deep.RegionWith
namespace Go.Proofs.YthncdjcmlpiebaaGreat
open Go.RowKit
set_option maxRecDepth 100000 in
/-- A graph's rows, a list of vertices beside. -/
theorem GN.store {w : World} {gr gb m : Nat} {wr : World} {A d : Nat} {Q : List Nat} (I : GN w gr gb m wr A d Q) {b n c : Nat} {B : Option Addr} {xs : List Int} (ho : OwnI wr b B n c xs) (A' d' : Nat) :
    OwnI ((wr.setCell ⟨gb, 0, none⟩ (.int .i64 m)).setCell ⟨gb, 1, none⟩ (.slice (some ⟨A', 0, none⟩) m d')) b B n c xs :=
  (ho.other_store (i := 0) I.box (by decide) (.int .i64 m)).other_store (i := 1) (I.box.set_ 0 (.int .i64 m)) (by decide) (.slice (some ⟨A', 0, none⟩) m d')
set_option maxRecDepth 100000 in
theorem graph_outF {N : Int} {n : Nat} {Q : List Nat} {b : Bool} {w : World} {e : Ending} {w' : World} (h : GivesGB N (ints Q) b w e w') (hl : Q.length = n) (h0 : 0 < n) :
    ∃ g d, e = .returned (.tuple #[.agg #[.int .i64 N, .slice (some ⟨g, 0, none⟩) n d], .bool b]) ∧ OwnI w' w.heap.size (some ⟨g, 0, none⟩) n d (ints Q) ∧ Below w.heap.size w w' := by
  obtain ⟨B, d, rfl, hown, hb⟩ := h
  have e : (ints Q).length = n := by rw [ints_len, hl]
  rw [e] at hown ⊢
  obtain ⟨g, rfl⟩ := hown.form h0
  exact ⟨g, d, rfl, hown, hb⟩
set_option maxRecDepth 100000 in
theorem specListOf_outF {s : Nat} {w : World} (hs : s < 128) : Calls Tryz.prog 136 #[.int .i64 s] w fun e w' => ∃ B d, e = .returned (.slice B (listOf s).length d) ∧ OwnI w' w.heap.size B (listOf s).length d (ints (listOf s)) ∧ Below w.heap.size w w' :=
  (specListOf_any s w hs).mono fun _ _ h => h.out
set_option maxRecDepth 100000 in
set_option maxHeartbeats 4000000 in
theorem l6Filled_any (A B : Option Addr) (n c d : Nat) (Q o : List Nat) (w : World) (hX : RI w A n (ints Q)) (hL : RI w B n (ints o)) (h : GOk n Q) (ho : natVerts n o) (hol : o.length = n) :
    Calls Tryz.prog 163 #[.agg #[.int .i64 n, .slice A n c], .slice B n d] w fun e w' => ∃ g' d', e = .returned (.agg #[.int .i64 n, .slice (some ⟨g', 0, none⟩) n d']) ∧ OwnI w' w.heap.size (some ⟨g', 0, none⟩) n d' (ints (fillK Q o n)) ∧ Below w.heap.size w w' := by
  have hn7 := h.le
  have hn1 := h.pos
  obtain ⟨ad, rfl, hab, _⟩ := hX.addr hn1
  obtain ⟨bd, rfl, hbb, _⟩ := hL.addr hn1
  have hU0 : Up w ((w.alloc (.cells #[.int .i64 n, .slice (some ad) n c] 26)).alloc (.cells #[.int .i64 0, .slice none 0 0] 26)) := by go_grown
  have hR0 : Blk ((w.alloc (.cells #[.int .i64 n, .slice (some ad) n c] 26)).alloc (.cells #[.int .i64 0, .slice none 0 0] 26)) (w.heap.size + 1) 26 #[.int .i64 0, .slice none 0 0] := Blk.new_at (by simp)
  have hz0 : ((w.alloc (.cells #[.int .i64 n, .slice (some ad) n c] 26)).alloc (.cells #[.int .i64 0, .slice none 0 0] 26)).heap.size = w.heap.size + 2 := by simp
  go_enter Tryz.func163, Tryz.ntmps163
  go_wp2_with fail
  refine (l2Copy_nat ad n c Q _ (hX.up hU0) h.len hn1 (by omega)).mono ?_
  rintro e w1 ⟨A1, d1, rfl, hO1, hb1, hA1⟩
  have hs1 := hb1.size
  have hU1 : Up w1 (w1.alloc (.cells #[.int .i64 n, .slice (some ⟨A1, 0, none⟩) n d1] 26)) := by go_grown
  have I0 : GN w (w.heap.size + 1) w1.heap.size n (w1.alloc (.cells #[.int .i64 n, .slice (some ⟨A1, 0, none⟩) n d1] 26)) A1 d1 Q :=
    ⟨(hR0.up hb1).up hU1, Blk.new _ _ _, (hO1.more (by omega)).up hU1, h, Up.then_ (Up.then_ hU0 hb1) hU1, by omega, by omega, by omega⟩
  obtain ⟨gr, hgr⟩ : ∃ gr, gr = w.heap.size + 1 := ⟨_, rfl⟩
  obtain ⟨gb, hgb⟩ : ∃ gb, gb = w1.heap.size := ⟨_, rfl⟩
  rw [← hgr, ← hgb] at I0
  go_wp2_with fail
  rw [← hgr, ← hgb]
  generalize w1.alloc (.cells #[.int .i64 n, .slice (some ⟨A1, 0, none⟩) n d1] 26) = w2 at I0 ⊢
  clear hgr hgb hU1 hO1 hb1 hR0 hU0 hz0 hs1 hA1
  have HO := Lib.hid ho
  have HOL := Lib.hid hol
  have HK := Lib.hid fun k => fillK_ok (o := o) h k
  have hLw := Lib.hid hL
  have HF0 := Lib.hid (show fillK Q o 0 = Q from rfl)
  clear ho hol hX hab
  go_loopw [6] (fun v wr => ∃ (k A d : Nat), k ≤ n ∧ v = .int .i64 k ∧ GN w gr gb n wr A d (fillK Q o k)) (fun v _ => n - (intOf v).toNat)
  case atStart => exact ⟨0, _, _, Nat.zero_le _, rfl, by rw [HF0.out]; exact I0⟩
  case round =>
    clear I0 hL
    obtain ⟨k, A, d', hk, rfl, I⟩ := hrel
    obtain ⟨wo, rfl⟩ : ∃ wo : World, wo = wr := ⟨_, rfl⟩
    by_cases hkn : k < n
    · have hkv := HO.out.at_ (j := k) (by rw [HOL.out]; exact hkn)
      have hLo := hLw.out.up I.bel
      have hc := hLo.nbs hkn
      have hbd : bd.block < wo.heap.size := by have := I.bel.size; omega
      have hX' := I.own.ri
      obtain ⟨v, hv⟩ : ∃ v, v = nb o k := ⟨_, rfl⟩
      obtain ⟨Qk, hQk⟩ : ∃ Qk, Qk = fillK Q o k := ⟨_, rfl⟩
      have HNx : fillK Q o (k + 1) = joinG Qk (ltr Qk o v) := by rw [hQk, hv]; rfl
      have hqk : GOk n Qk := by rw [hQk]; exact HK.out k
      obtain ⟨L, hLt⟩ : ∃ L, L = ltr Qk o v := ⟨_, rfl⟩
      have hLl : ∀ i, L.testBit i = true → i < n := by rw [hLt]; exact ltr_low hqk o v
      have hL2 : L < 2 ^ n := by
        refine Nat.lt_pow_two_of_testBit _ fun i hi => ?_
        rw [← Bool.not_eq_true]
        exact fun e => by have := hLl i e; omega
      have hL7 : L < 128 := hqk.n7 hL2
      rw [← hv] at hc hkv
      rw [← hQk] at I hX'
      have HLa := Lib.hid (show laterOf n (ints Qk) (ints o) v = L by rw [laterOf_ok (isOrder_nat hqk HO.out HOL.out) hkv, hLt])
      rw [← hLt, ← joinA_joinG hqk hLl] at HNx
      have HN := Lib.hid HNx
      have HAk := Lib.hid fun a ha => (joinA_ok hqk hLl a ha).1
      have HLI := Lib.hid fun x (hx : x < (listOf L).length) => hLl _ (listOf_nb hx).2
      have HNE := Lib.hid fun x y (hy : y < x) (hx : x < (listOf L).length) => listOf_asc hy hx
      have HQK := Lib.hid hqk
      clear hv hQk hLt HNx hLl hL2
      have hy := I.box.two
      have hlb := I.box.lt
      go_wp2_with fail
      have hV0 : Up wo wo.drew := (Up.refl _).drew
      refine wp_region_held_drew (S := (fun w' => Up wo w' ∧ (∀ b o, b < wo.heap.size → w'.cell? ⟨b, o, none⟩ = wo.cell? ⟨b, o, none⟩) ∧ w'.cell? (bd.add k) = some (.int .i64 (v : Nat)))) (by kernel_rfl) (by exact ⟨hV0, fun _ _ hb => hV0.cell hb, (hV0.cell (by first | assumption | (rw [block_of_add]; assumption))).trans (by assumption)⟩) (fun hHeld => ?_)
      refine wpAnyH_take (i := 0) (v := ?_) rfl (by kernel_rfl) (by kernel_rfl) (by kernel_rfl) (fun _ _ _ h => h) (Or.inl ⟨by rfl, ?_⟩) (by assumption) ?_
      rotate_left
      · (intro w' hSw; go_simp; try with_reducible rfl)
      (try simp only [List.getElem_toArray]); (try simp only [List.getElem_cons_succ]); (try simp only [List.getElem_cons_zero]); (try simp only [Act.put]); (try simp only [List.setIfInBounds_toArray]); (try simp only [List.set_cons_succ]); (try simp only [List.set_cons_zero])
      refine wpAnyH_take (i := 1) (v := ?_) rfl (by kernel_rfl) (by kernel_rfl) (by kernel_rfl) (fun _ _ _ h => h) (Or.inl ⟨by rfl, ?_⟩) (by assumption) ?_
      rotate_left
      · (intro w' hSw; go_simp; try with_reducible rfl)
      (try simp only [List.getElem_toArray]); (try simp only [List.getElem_cons_succ]); (try simp only [List.getElem_cons_zero]); (try simp only [Act.put]); (try simp only [List.setIfInBounds_toArray]); (try simp only [List.set_cons_succ]); (try simp only [List.set_cons_zero])
      refine wpAnyH_take (i := 2) (v := ?_) rfl (by kernel_rfl) (by kernel_rfl) (by kernel_rfl) (fun _ _ _ h => h) (Or.inl ⟨by rfl, ?_⟩) (by assumption) ?_
      rotate_left
      · (intro w' hSw; go_simp; try with_reducible rfl)
      (try simp only [List.getElem_toArray]); (try simp only [List.getElem_cons_succ]); (try simp only [List.getElem_cons_zero]); (try simp only [Act.put]); (try simp only [List.setIfInBounds_toArray]); (try simp only [List.set_cons_succ]); (try simp only [List.set_cons_zero])
      refine wpAnyH_take (i := 3) (v := ?_) rfl (by kernel_rfl) (by kernel_rfl) (by kernel_rfl) (fun _ _ _ h => h) (Or.inl ⟨by rfl, ?_⟩) (by assumption) ?_
      rotate_left
      · (intro w' hSw; go_simp; try with_reducible rfl)
      (try simp only [List.getElem_toArray]); (try simp only [List.getElem_cons_succ]); (try simp only [List.getElem_cons_zero]); (try simp only [Act.put]); (try simp only [List.setIfInBounds_toArray]); (try simp only [List.set_cons_succ]); (try simp only [List.set_cons_zero])
      refine wpAnyH_take (i := 4) (v := ?_) rfl (by kernel_rfl) (by kernel_rfl) (by kernel_rfl) (fun _ _ _ h => h) (Or.inl ⟨by rfl, ?_⟩) (by assumption) ?_
      rotate_left
      · (intro w' hSw; go_simp; try with_reducible rfl)
      (try simp only [List.getElem_toArray]); (try simp only [List.getElem_cons_succ]); (try simp only [List.getElem_cons_zero]); (try simp only [Act.put]); (try simp only [List.setIfInBounds_toArray]); (try simp only [List.set_cons_succ]); (try simp only [List.set_cons_zero])
      refine wpAnyH_take (i := 5) (v := ?_) rfl (by kernel_rfl) (by kernel_rfl) (by kernel_rfl) (fun _ _ _ h => h) (Or.inl ⟨by rfl, ?_⟩) (by assumption) ?_
      rotate_left
      · (intro w' hSw; go_simp; try with_reducible rfl)
      (try simp only [List.getElem_toArray]); (try simp only [List.getElem_cons_succ]); (try simp only [List.getElem_cons_zero]); (try simp only [Act.put]); (try simp only [List.setIfInBounds_toArray]); (try simp only [List.set_cons_succ]); (try simp only [List.set_cons_zero])
      refine wpAnyH_ready (rs := [6]) (by kernel_rfl) (by simp) ?_
      refine AllReadyH.cons rfl (fun K hK => ?_) AllReadyH.nil
      go_simp
      go_at_call 173
      refine (specLater_is (hX'.up hV0) (hLo.up hV0) (by omega) (by omega) HLa.out).mono ?_
      rintro e w50 ⟨rfl, hb50⟩
      have hV1 := Up.then_ hV0 hb50
      go_wp2_with fail
      refine hK.out _ _ (by exact ⟨hV1, fun _ _ hb => hV1.cell hb, (hV1.cell (by first | assumption | (rw [block_of_add]; assumption))).trans (by assumption)⟩) (fun hHeld1 => ?_)
      clear hK K
      (try simp only [List.getElem_toArray]); (try simp only [List.getElem_cons_succ]); (try simp only [List.getElem_cons_zero]); (try simp only [Act.put]); (try simp only [List.setIfInBounds_toArray]); (try simp only [List.set_cons_succ]); (try simp only [List.set_cons_zero])
      refine wpAnyH_ready (rs := [7]) (by kernel_rfl) (by simp) ?_
      refine AllReadyH.cons rfl (fun K hK => ?_) AllReadyH.nil
      go_simp
      go_at_call 136
      refine (specListOf_outF hL7).mono ?_
      rintro e w51 ⟨B3, d3, rfl, hO3, hb51⟩
      have hV2 := Up.then_ hV1 hb51
      go_wp2_with fail
      refine hK.out _ _ (by exact ⟨hV2, fun _ _ hb => hV2.cell hb, (hV2.cell (by first | assumption | (rw [block_of_add]; assumption))).trans (by assumption)⟩) (fun hHeld2 => ?_)
      clear hK K
      (try simp only [List.getElem_toArray]); (try simp only [List.getElem_cons_succ]); (try simp only [List.getElem_cons_zero]); (try simp only [Act.put]); (try simp only [List.setIfInBounds_toArray]); (try simp only [List.set_cons_succ]); (try simp only [List.set_cons_zero])
      refine wpAnyH_take (i := 8) (v := ?_) rfl (by kernel_rfl) (by kernel_rfl) (by kernel_rfl) (fun _ _ _ h => h) (Or.inl ⟨by rfl, ?_⟩) (by assumption) ?_
      rotate_left
      · (intro w' hSw; go_simp; try with_reducible rfl)
      (try simp only [List.getElem_toArray]); (try simp only [List.getElem_cons_succ]); (try simp only [List.getElem_cons_zero]); (try simp only [Act.put]); (try simp only [List.setIfInBounds_toArray]); (try simp only [List.set_cons_succ]); (try simp only [List.set_cons_zero])
      refine wpAnyH_done (by kernel_rfl) ?_ _
      have hU5 := hV2
      replace hO3 := hO3.more (base' := w.heap.size) (by have := I.bel.size; have := hV1.size; omega)
      replace I := I.up hU5
      obtain ⟨w3, hw3⟩ : ∃ w3, w3 = w51 := ⟨_, rfl⟩
      rw [← hw3] at I hO3 ⊢
      clear hw3 hy hlb hV0 hV1 hV2 hb50 hb51 hU5 hHeld hHeld1 hHeld2 hc hkv hbd hX' hLo HLa w50 w51
      have hl7 := listOf_len L
      obtain ⟨l, hl⟩ : ∃ l, l = listOf L := ⟨_, rfl⟩
      rw [← hl] at HN HAk HLI HNE hl7 hO3 ⊢
      clear hl
      have HA0 := Lib.hid (show joinA Qk l 0 = Qk from rfl)
      go_wp2_with fail
      go_loopw [8] (fun v wr => ∃ (i A d' : Nat), i ≤ l.length ∧ v = .int .i64 i ∧ GN w gr gb n wr A d' (joinA Qk l i) ∧ OwnI wr w.heap.size B3 l.length d3 (ints l)) (fun v _ => l.length - (intOf v).toNat)
      case atStart => exact ⟨0, _, _, Nat.zero_le _, rfl, by rw [HA0.out]; exact I, hO3⟩
      case round =>
        clear I hO3
        obtain ⟨i, A, d', hi, rfl, I, hO3⟩ := hrel
        obtain ⟨wi, rfl⟩ : ∃ wi : World, wi = wr := ⟨_, rfl⟩
        by_cases hil : i < l.length
        · have HNi := Lib.hid (show joinA Qk l (i + 1) = joinB (joinA Qk l i) l i i from rfl)
          have HQi := Lib.hid (HAk.out i hi)
          obtain ⟨Qi, hQi⟩ : ∃ Qi, Qi = joinA Qk l i := ⟨_, rfl⟩
          rw [← hQi] at I HNi HQi
          clear hQi
          have HB0 := Lib.hid (show joinB Qi l i 0 = Qi from rfl)
          have HBk := Lib.hid fun b (hb : b ≤ i) => (joinB_ok HQi.out (a := i) (HLI.out i hil) b fun y hy => ⟨HLI.out y (by omega), fun e => HNE.out i y (by omega) hil e.symm⟩).1
          go_wp2_with fail
          go_loopw [9] (fun v wr => ∃ (j A d' : Nat), j ≤ i ∧ v = .int .i64 j ∧ GN w gr gb n wr A d' (joinB Qi l i j) ∧ OwnI wr w.heap.size B3 l.length d3 (ints l)) (fun v _ => i - (intOf v).toNat)
          case atStart => exact ⟨0, _, _, Nat.zero_le _, rfl, by rw [HB0.out]; exact I, hO3⟩
          case round =>
            clear I hO3
            obtain ⟨j, A, d', hj, rfl, I, hO3⟩ := hrel
            obtain ⟨wj, rfl⟩ : ∃ wj : World, wj = wr := ⟨_, rfl⟩
            by_cases hji : j < i
            · have hjl : j < l.length := by omega
              have HS := Lib.hid (show joinB Qi l i (j + 1) = addE (joinB Qi l i j) (nb l i) (nb l j) from rfl)
              have hT := HBk.out j hj
              obtain ⟨T, hTT⟩ : ∃ T, T = joinB Qi l i j := ⟨_, rfl⟩
              rw [← hTT] at I HS hT
              clear hTT
              obtain ⟨ad3, rfl, hcv⟩ := hO3.ri.nb_at hil
              have hcx := hO3.ri.nbs hjl
              have hvn := HLI.out i hil
              have hxn := HLI.out j hjl
              have hne := HNE.out i j hji hil
              obtain ⟨v, hv⟩ : ∃ v, v = nb l i := ⟨_, rfl⟩
              rw [← hv] at hcv hvn hne HS
              clear hv
              obtain ⟨y, hy⟩ : ∃ y, y = nb l j := ⟨_, rfl⟩
              rw [← hy] at hcx hxn hne HS
              clear hy
              have hyb := I.box.two
              go_wp2_with fail
              have hyb2 : wj.drew.cell? ⟨gb, 0, none⟩ = some (.int .i64 n) ∧ wj.drew.cell? ⟨gb, 1, none⟩ = some (.slice (some ⟨A, 0, none⟩) n d') := hyb
              have hcv2 : wj.drew.cell? (ad3.add i) = some (.int .i64 v) := hcv
              have hcx2 : wj.drew.cell? (ad3.add j) = some (.int .i64 y) := hcx
              go_region_with (refine ((addEdge_ok ⟨A, 0, none⟩ n d' v y T _ I.own.drew.ri hT hvn hxn (fun e => hne e.symm)).mono fun e w' hg => graph_outF hg (by rw [addE_len, hT.len]) (by omega)).mono ?_; rintro e w4 ⟨g', d2, rfl, hown4, hb4⟩; have I4 := (I.up (Below.drew (Up.refl _))).up hb4; have hyb4 := I4.box.two; have f0 := I4.box.frozen 0; have f1 := I4.box.frozen 1)
              all_goals
                have hU4 : Up wj w4 := Up.then_ (Below.drew (Up.refl _)) hb4
                have hO4 := hO3.up hU4
                have I5 := I.put hU4 (hown4.more (base' := wj.heap.size) (Nat.le_refl _)) (hT.addE hvn hxn (fun e => hne e.symm))
                rw [← HS.out] at I5
                have hO5 := I4.store hO4 g' d2
                clear hown4 I4 I hO3 hb4 hyb hyb2 hcv2 hcx2 hcv hcx
                go_wp2_with fail
                go_roundw
                case rel => exact ⟨j + 1, g', d2, by omega, by go_num, I5, hO5⟩
                case measure => simp [intOf]; omega
            · obtain rfl : j = i := by omega
              go_wp2
              go_roundw
              case rel => exact ⟨j + 1, A, d', by omega, by go_num, by rw [HNi.out]; exact I, hO3⟩
              case measure => simp [intOf]; omega
        · obtain rfl : i = l.length := by omega
          go_wp2
          go_roundw
          case rel => exact ⟨k + 1, A, d', by omega, by go_num, by rw [HN.out]; exact I⟩
          case measure => simp [intOf]; omega
    · obtain rfl : k = n := by omega
      have hy := I.box.two
      have hfz := I.res.frozen
      have hf0 := hfz 0
      have hf1 := hfz 1
      clear hfz
      have hyr := I.res.two
      have hgr := I.hgr
      have hfin := ((I.res.set_ 0 (.int .i64 (k : Nat))).set_ 1 (.slice (some ⟨A, 0, none⟩) k d')).two
      have o2 := (I.own.other_store (i := 0) I.res (by decide) (.int .i64 (k : Nat))).other_store (i := 1) (I.res.set_ 0 (.int .i64 (k : Nat))) (by decide) (.slice (some ⟨A, 0, none⟩) k d')
      have hb2 := (I.bel.setCell (p := ⟨gr, 0, none⟩) hgr (.int .i64 (k : Nat))).setCell (p := ⟨gr, 1, none⟩) hgr (.slice (some ⟨A, 0, none⟩) k d')
      clear I
      go_wp2
      generalize (wo.setCell ⟨gr, 0, none⟩ (.int .i64 (k : Nat))).setCell ⟨gr, 1, none⟩ (.slice (some ⟨A, 0, none⟩) k d') = Wf at hfin o2 hb2 ⊢
      refine bodyPost_ret (v := .agg #[.int .i64 (k : Nat), .slice (some ⟨A, 0, none⟩) k d']) ?_ rfl ?_
      · simp [results, Tryz.results163, go_sem, hfin]
      exact ⟨A, d', rfl, o2, hb2⟩
end Go.Proofs.YthncdjcmlpiebaaGreat
namespace Go.Proofs.YthncdjcmlpiebaaGreat
open Go.RowKit
/-- A drawn graph in a box, the result beside; the cursor is the caller's. -/
structure GX (w : World) (g : Nat) (B : Option Addr) (n c : Nat) (bs : List Int) (gr gb : Nat) (N : Int) (A : Option Addr) (m d : Nat) (X : List Int) (wr : World) : Prop where
  cur : Cur wr g B n c bs
  res : Blk wr gr 26 #[.int .i64 0, .slice none 0 0]
  box : Blk wr gb 26 #[.int .i64 N, .slice A m d]
  own : OwnI wr w.heap.size A m d X
  gby : w.grownBy wr (some g)
  low : g < w.heap.size
  hgr : w.heap.size ≤ gr
  hgb : w.heap.size ≤ gb
  ne : gr ≠ gb
section
variable {w wr w' : World} {g n c gr gb m d : Nat} {B A : Option Addr} {bs X : List Int} {N : Int}
set_option maxRecDepth 100000 in
theorem GX.up (I : GX w g B n c bs gr gb N A m d X wr) (hb : Up wr w') : GX w g B n c bs gr gb N A m d X w' :=
  ⟨I.cur.up hb, I.res.up hb, I.box.up hb, I.own.up hb, gb_up I.gby hb, I.low, I.hgr, I.hgb, I.ne⟩
set_option maxRecDepth 100000 in
theorem GX.dr (I : GX w g B n c bs gr gb N A m d X wr) (hC : Cur w' g B n c bs) (hg : wr.grownBy w' (some g)) : GX w g B n c bs gr gb N A m d X w' :=
  ⟨hC, I.res.grown hg (fun e => by injection e with e; have := I.low; have := I.hgr; omega), I.box.grown hg (fun e => by injection e with e; have := I.low; have := I.hgb; omega), I.own.far_gb hg I.low, gb_trans I.gby hg, I.low, I.hgr, I.hgb, I.ne⟩
set_option maxRecDepth 100000 in
/-- The box's fields go into the result. -/
theorem GX.fin {P : Int → List Int → Prop} (I : GX w g B n c bs gr gb N A m d X wr) (hP : P N X) :
    Dr g B n c bs w (fun v w' => Gv P w.heap.size v w') (.returned (.agg #[.int .i64 N, .slice A m d])) ((wr.setCell ⟨gr, 0, none⟩ (.int .i64 N)).setCell ⟨gr, 1, none⟩ (.slice A m d)) ∧
      (((wr.setCell ⟨gr, 0, none⟩ (.int .i64 N)).setCell ⟨gr, 1, none⟩ (.slice A m d)).cell? ⟨gr, 0, none⟩ = some (.int .i64 N) ∧ ((wr.setCell ⟨gr, 0, none⟩ (.int .i64 N)).setCell ⟨gr, 1, none⟩ (.slice A m d)).cell? ⟨gr, 1, none⟩ = some (.slice A m d)) := finG I.res I.own hP I.cur I.gby I.hgr I.low
end
set_option maxRecDepth 100000 in
theorem lex_some {N s : Int} {X : List Int} (h : (lexOf N X s).isSome = true) : ∃ (k : Nat) (Q o : List Nat), N = k ∧ X = ints Q ∧ GOk k Q ∧ natVerts k o ∧ o.length = k ∧ optL (lexOf N X s) = ints o := by
  rcases lexOf_cases N X s with ⟨hl, _⟩ | ⟨n, t, Q, rfl, rfl, rfl, h, ht⟩
  · rw [hl] at h; cases h
  · obtain ⟨h1, h2⟩ := lexR_order h ht
    exact ⟨n, Q, _, rfl, rfl, h, h1, h2, by rw [lexOf_ok h ht]; rfl⟩
set_option maxRecDepth 100000 in
set_option maxHeartbeats 4000000 in
theorem l8Chordal_any {g : Nat} {B : Option Addr} {n c : Nat} {bs : List Int} {w : World} (hC : Cur w g B n c bs) :
    Calls Tryz.prog 141 #[.pointer (some ⟨g, 0, none⟩)] w (Dr g B n c bs w fun v w' => Gv le6 w.heap.size v w') := by
  have hlow := hC.lt
  have hU0 : Up w (w.alloc (.cells #[.int .i64 0, .slice none 0 0] 26)) := by go_grown
  have hR0 := Blk.new w 26 #[.int .i64 0, .slice none 0 0]
  have hC0 := hC.up hU0
  have hg0 := gb_of_up (some g) hU0
  obtain ⟨gr, hgr⟩ : ∃ gr, gr = w.heap.size := ⟨_, rfl⟩
  go_enter Tryz.func141, Tryz.ntmps141
  go_wp2_with fail
  refine (l2Any_any hC0).mono ?_
  rintro e w1 ⟨v, rfl, ⟨N, A, m, d, X, rfl, ho, hX⟩, hC1, hg1⟩
  have hs1 := hg1.size
  try simp only [World.size_alloc] at hs1
  have hR1 := hR0.grown hg1 (fun e => by injection e with e; omega)
  have hG1 := gb_trans hg0 hg1
  have hU1 : Up w1 (w1.alloc (.cells #[.int .i64 N, .slice A m d] 26)) := by go_grown
  rw [← hgr] at hR1 ⊢
  have hgr' : w.heap.size ≤ gr := by omega
  have hgrb : gr ≠ w1.heap.size := by omega
  have I : GX w g B n c bs gr w1.heap.size N A m d X (w1.alloc (.cells #[.int .i64 N, .slice A m d] 26)) :=
    ⟨hC1.up hU1, hR1.up hU1, Blk.new _ _ _, (ho.more (by simp)).up hU1, gb_up hG1 hU1, hlow, hgr', by omega, hgrb⟩
  clear hR0 hC0 hg0 hg1 hU0 hR1 hC1 hG1 ho hC hU1 hgr hgrb
  obtain ⟨gb, hgb⟩ : ∃ gb, gb = w1.heap.size := ⟨_, rfl⟩
  rw [← hgb] at I
  go_wp2_with fail
  rw [← hgb]
  generalize w1.alloc (.cells #[.int .i64 N, .slice A m d] 26) = w2 at I ⊢
  clear hgb hs1 hgr'
  have hm6 : m ≤ 6 := by rw [← I.own.len]; exact hX
  have hm64 : m ≤ 9223372036854775807 := by omega
  have hy := I.box.two
  have hlb := I.box.lt
  have hgs := I.cur.lt
  have HLX := fun s => Lib.hid (show (lexOf N X s).isSome = true → ∃ (k : Nat) (Q o : List Nat), N = k ∧ X = ints Q ∧ GOk k Q ∧ natVerts k o ∧ o.length = k ∧ optL (lexOf N X s) = ints o from lex_some)
  go_region_with (first
    | (go_at_call 106; refine (l1Below_any (I.up (Below.drew (Up.refl _))).cur 2 (by omega) (by omega)).mono ?_; rintro e w5 ⟨v, rfl, ⟨x, rfl, hx⟩, hC5, hg5⟩; have I5 := (I.up (Below.drew (Up.refl _))).dr hC5 hg5; have hy5 := I5.box.two)
    | (go_at_call 83; refine (specLexOrder_any N (x : Int) A m d X _ I5.own.ri hm64).mono ?_; rintro e w6 ⟨A2, c2, rfl, hO2, hb6⟩; have I6 := I5.up hb6; have hy6 := I6.box.two; have HL6 := HLX (x : Int); have hO2' := hO2.more (base' := g + 1) (by have := I5.cur.lt; omega); obtain ⟨xs2, hxs2⟩ : ∃ xs2, xs2 = optL (lexOf N X (x : Int)) := ⟨_, rfl⟩; obtain ⟨b2, hbb2⟩ : ∃ b2, b2 = (lexOf N X (x : Int)).isSome := ⟨_, rfl⟩; rw [← hxs2] at hO2 hO2'; rw [← hbb2, ← hxs2] at HL6 ⊢; clear hxs2 hbb2 hx))
  all_goals
    replace I := I6
    have hL2 := hO2'
    have hgrw := I.hgr
    clear I6 I5 hg5 hC5 hb6 hy5 hy6 hy hlb hgs hO2 hO2' HLX w5
    cases b2
    · clear HL6 hL2
      have hy := I.box.two
      have hf0 := I.res.frozen 0
      have hf1 := I.res.frozen 1
      have hyr := I.res.two
      obtain ⟨f1, hfin⟩ := I.fin (P := le6) hX
      clear I
      go_wp2
      generalize (w6.setCell ⟨gr, 0, none⟩ (.int .i64 N)).setCell ⟨gr, 1, none⟩ (.slice A m d) = Wf at f1 hfin ⊢
      refine bodyPost_ret (v := .agg #[.int .i64 N, .slice A m d]) ?_ rfl ?_
      · simp [results, Tryz.results141, go_sem, hfin]
      exact f1
    · go_wp2_with fail
      refine (l1Once_any I.cur 4 (by omega) (by omega)).mono ?_
      rintro e w7 ⟨v, rfl, ⟨q, rfl⟩, hC7, hg7⟩
      replace I := I.dr hC7 hg7
      cases q
      · obtain ⟨k, Q, o, rfl, rfl, h, ho, hol, hxo⟩ := HL6.out trivial
        clear HL6
        subst hxo
        have hlk : (ints Q).length = k := by rw [ints_len, h.len]
        have hlo : (ints o).length = k := by rw [ints_len, hol]
        obtain rfl : m = k := by have := I.own.len; omega
        have hL7 := hL2.far_gb hg7 (by omega)
        have hs7 := I.gby.size
        rw [hlo] at hL7 ⊢
        clear hL2 hC7 hg7
        have hy := I.box.two
        have hlb := I.box.lt
        go_wp2_with fail
        refine (l6Filled_any A A2 m d c2 Q o _ I.own.ri hL7.ri h ho hol).mono ?_
        rintro e w8 ⟨g8, d8, rfl, hO8, hb8⟩
        replace I := I.up hb8
        have hsz := I.gby.size
        have hlF : (ints (fillK Q o m)).length = m := hO8.len
        have hO8' := hO8.more (base' := w.heap.size) hs7
        have hf0 := I.res.frozen 0
        have hf1 := I.res.frozen 1
        have hyr := I.res.two
        obtain ⟨f1, hfin⟩ := finG (N := (m : Nat)) (P := le6) I.res hO8' (show (ints (fillK Q o m)).length ≤ 6 by omega) I.cur I.gby I.hgr I.low
        clear I hy hL7 hO8 hO8' hb8
        go_wp2
        generalize (w8.setCell ⟨gr, 0, none⟩ (.int .i64 (m : Nat))).setCell ⟨gr, 1, none⟩ (.slice (some ⟨g8, 0, none⟩) m d8) = Wf at f1 hfin ⊢
        refine bodyPost_ret (v := .agg #[.int .i64 (m : Nat), .slice (some ⟨g8, 0, none⟩) m d8]) ?_ rfl ?_
        · simp [results, Tryz.results141, go_sem, hfin]
        exact f1
      · have hy := I.box.two
        have hf0 := I.res.frozen 0
        have hf1 := I.res.frozen 1
        have hyr := I.res.two
        obtain ⟨f1, hfin⟩ := I.fin (P := le6) hX
        clear I HL6 hL2 hC7 hg7
        go_wp2
        generalize (w7.setCell ⟨gr, 0, none⟩ (.int .i64 N)).setCell ⟨gr, 1, none⟩ (.slice A m d) = Wf at f1 hfin ⊢
        refine bodyPost_ret (v := .agg #[.int .i64 N, .slice A m d]) ?_ rfl ?_
        · simp [results, Tryz.results141, go_sem, hfin]
        exact f1
end Go.Proofs.YthncdjcmlpiebaaGreat
namespace Go.Proofs.YthncdjcmlpiebaaGreat
open Go.RowKit
/-- The new row's block is the old one's, or a new one. -/
def FreshFrom (w : World) (v v' : Value) : Prop := ∀ j, v'.ownBlock = some j → v.ownBlock = some j ∨ w.heap.size ≤ j
section
variable {P : Program}
set_option maxRecDepth 100000 in
theorem run_push (w : World) (base : Nat) (t ty e : TypeId) (i : TypeInfo) (z : Value) (bytes : Nat) (ht : P.underlying t = some (.slice e)) (hi : P.info? e = some i) (hz : i.zero = some z)
    (hsize : i.size = 1) (hby : i.bytes = bytes) (hzs : z.cells.size = 1) {A : Option Addr} {n c : Nat} {xs : List Value} (hown : w.ownsRow base e 1 (.slice A n c) n xs)
    (ad : Addr) (y : Value) (hc : w.cell? ad = some y) (h1 : y.oneCell' = true) (h63 : n + 1 ≤ maxLen) (hbytes : (n + 1) * bytes ≤ 140737488355328) (hbase : base ≤ w.heap.size) :
    ∃ A' c' w', (Builtin.append_ #[t, t] ty #[.slice A n c, .slice (some ad) 1 1]).run P w = .ok (.slice A' (n + 1) c') w' ∧ w'.ownsRow base e 1 (.slice A' (n + 1) c') (n + 1) (xs ++ [y]) ∧ w.grownBy w' (Value.slice A n c).ownBlock ∧
      FreshFrom w (.slice A n c) (.slice A' (n + 1) c') := by
  have hnews : ∀ j u, [y][j]? = some u → w.cell? (ad.add j) = some u := fun j u hj => by
    match j, hj with
    | 0, hj => simp at hj; subst hj; simpa [Addr.add] using hc
  have hone : ∀ u ∈ [y], u.oneCell' = true := fun u hu => by simp at hu; subst hu; exact h1
  obtain ⟨v', w', hr, h2, h3, _⟩ := run_append_own (P := P) w base t ty e i z 1 bytes ht hi hz hsize hby hzs (by omega) (.slice A n c) n xs hown ad 1 1 [y] rfl hnews hone h63 hbytes hbase
  have hex : ∃ A' c', v' = .slice A' (n + 1) c' := by
    rcases h2.2 with ⟨_, h0⟩ | ⟨g, cap, cur, hv, _⟩
    · omega
    · exact ⟨_, _, hv⟩
  obtain ⟨A', c', rfl⟩ := hex
  refine ⟨A', c', w', hr, h2, h3, ?_⟩
  have hxl : xs.length = n := by have := hown.1; omega
  rcases hown.2 with ⟨hv, hn⟩ | ⟨g, cap, cur, hv, hb, hg, hnc, hcm, hsz, htake⟩
  · injection hv with e1 e2 e3
    subst e1 e2 e3
    have hx0 : xs = [] := List.eq_nil_of_length_eq_zero hxl
    subst hx0
    obtain ⟨v2, w2, hr2, k2, _, _⟩ := run_append_own (P := P) w w.heap.size t ty e i z 1 bytes ht hi hz hsize hby hzs (by omega) (.slice none 0 0) 0 [] (World.ownsRow_nil w _ e 1) ad 1 1 [y] rfl hnews hone h63 hbytes (Nat.le_refl _)
    rw [hr] at hr2
    injection hr2 with e1 e2
    subst e1
    exact fun j hj => .inr (World.ownsRow.lt k2 j hj).1
  · injection hv with e1 e2 e3
    subst e1 e3
    by_cases hroom : n + 1 ≤ c
    · have hcell : ∀ j, j < [y].length → (w.cell? ⟨g, 0 + n * i.size + j, none⟩).isSome = true := fun j hj => by
        have : j = 0 := by simpa using hj
        subst this
        rw [hsize, cell_of_row w g _ cur e (0, 0) hg, Array.getElem?_eq_getElem (by rw [hsz]; omega)]; rfl
      have hfrz : ∀ j, j < [y].length → w.frozen? ⟨g, 0 + n * i.size + j, none⟩ = false := fun j _ => by simp [World.frozen?, hg]
      have hr2 := run_append_room_cells (P := P) w t ty e i ht hi g 0 n c ad 1 1 [y] (by rw [hsize]; rfl) hnews hone hroom hcell hfrz
      rw [hr] at hr2
      injection hr2 with e1 e2
      injection e1 with e3 _ _
      subst e3
      exact fun j hj => .inl hj
    · have holds : ∀ j u, xs[j]? = some u → w.cell? ((⟨g, 0, none⟩ : Addr).add j) = some u := World.ownsRow.cells hown rfl
      obtain ⟨v2, w2, hr2, k2, _⟩ := run_append_arg_grows (P := P) w t ty e i z 1 bytes ht hi hz hsize hby hzs (by omega) ⟨g, 0, none⟩ n c xs (by omega) holds ad 1 1 [y] rfl hnews (by omega) h63 hbytes
      rw [hr] at hr2
      injection hr2 with e1 e2
      subst e1
      exact fun j hj => .inr (World.ownsRow.lt k2 j hj).1
set_option maxRecDepth 100000 in
theorem wp_push2 {o : Oper} {a : Act} {w : World} {K : Act → World → Prop} {Q : Exit → Act → World → Prop} (s x : Operand) (t e : TypeId) (ho : o.op = .call { callee := .builtin .append, args := #[s, x], argTypes := #[t, t] })
    (i : TypeInfo) (z : Value) (bytes : Nat) (ht : P.underlying t = some (.slice e)) (hi : P.info? e = some i) (hz : i.zero = some z) (hsize : i.size = 1) (hby : i.bytes = bytes) (hzs : z.cells.size = 1)
    {base : Nat} {A : Option Addr} {n c : Nat} {xs : List Value} (hs : a.eval s = .slice A n c) (hown : w.ownsRow base e 1 (.slice A n c) n xs)
    (ad : Addr) (y : Value) (hx : a.eval x = .slice (some ad) 1 1) (hc : w.cell? ad = some y) (h1 : y.oneCell' = true) (h63 : n + 1 ≤ maxLen) (hbytes : (n + 1) * bytes ≤ 140737488355328) (hbase : base ≤ w.heap.size)
    (h : ∀ A' c' w', w'.ownsRow base e 1 (.slice A' (n + 1) c') (n + 1) (xs ++ [y]) → w.grownBy w' (Value.slice A n c).ownBlock → FreshFrom w (.slice A n c) (.slice A' (n + 1) c') → K (a.put o.dst (.slice A' (n + 1) c')) w') : o.wp P a w K Q := by
  obtain ⟨A', c', w', hr, h2, h3, h4⟩ := run_push (P := P) w base t o.type e i z bytes ht hi hz hsize hby hzs hown ad y hc h1 h63 hbytes hbase
  unfold Oper.wp execOp
  simp only [ho, resolve, invoke, builtin, Sem.run_bind, Sem.run_pure, Result.andThen_ok, List.map_toArray, List.map_cons, List.map_nil, hs, hx, hr]
  exact h A' c' w' h2 h3 h4
end
/-- Two rows of the call's own, of different blocks, and what else is as it was in W. -/
structure Two (W : World) (ra rb : Option Nat) (base : Nat) (e1 e2 : TypeId) (A : Option Addr) (n c : Nat) (xs : List Value) (B : Option Addr) (m d : Nat) (ys : List Value) (w : World) : Prop where
  a : w.ownsRow base e1 1 (.slice A n c) n xs
  b : w.ownsRow base e2 1 (.slice B m d) m ys
  ne : ∀ j, (Value.slice A n c).ownBlock = some j → (Value.slice B m d).ownBlock ≠ some j
  os : w.os = W.os
  tape : w.tape = W.tape
  output : w.output = W.output
  size : W.heap.size ≤ w.heap.size
  block : ∀ k, k < W.heap.size → some k ≠ ra → some k ≠ rb → w.heap[k]? = W.heap[k]?
  fa : ∀ j, (Value.slice A n c).ownBlock = some j → ra = some j ∨ W.heap.size ≤ j
  fb : ∀ j, (Value.slice B m d).ownBlock = some j → rb = some j ∨ W.heap.size ≤ j
section
variable {W : World} {ra rb : Option Nat} {base : Nat} {e1 e2 : TypeId} {A B : Option Addr} {n c m d : Nat} {xs ys : List Value} {w w' : World}
set_option maxRecDepth 100000 in
theorem Two.start (ha : W.ownsRow base e1 1 (.slice A n c) n xs) (hb : W.ownsRow base e2 1 (.slice B m d) m ys) (hne : ∀ j, (Value.slice A n c).ownBlock = some j → (Value.slice B m d).ownBlock ≠ some j) :
    Two W (Value.slice A n c).ownBlock (Value.slice B m d).ownBlock base e1 e2 A n c xs B m d ys W :=
  ⟨ha, hb, hne, rfl, rfl, rfl, Nat.le_refl _, fun _ _ _ _ => rfl, fun _ h => .inl h, fun _ h => .inl h⟩
set_option maxRecDepth 100000 in
theorem Two.alloc (h : Two W ra rb base e1 e2 A n c xs B m d ys w) (o : Obj) : Two W ra rb base e1 e2 A n c xs B m d ys (w.alloc o) :=
  ⟨World.ownsRow.alloc h.a o, World.ownsRow.alloc h.b o, h.ne, h.os, h.tape, h.output, by have := h.size; simp; omega, fun k hk h1 h2 => (Below.heap_alloc w o k (by have := h.size; omega)).trans (h.block k hk h1 h2), h.fa, h.fb⟩
set_option maxRecDepth 100000 in
theorem Two.pushA {y : Value} {A' : Option Addr} {c' : Nat} (h : Two W ra rb base e1 e2 A n c xs B m d ys w) (h2 : w'.ownsRow base e1 1 (.slice A' (n + 1) c') (n + 1) (xs ++ [y])) (h3 : w.grownBy w' (Value.slice A n c).ownBlock)
    (h4 : FreshFrom w (.slice A n c) (.slice A' (n + 1) c')) : Two W ra rb base e1 e2 A' (n + 1) c' (xs ++ [y]) B m d ys w' := by
  refine ⟨h2, World.ownsRow.kept h.b h3 ?_, fun j hj hk => ?_, h3.os.trans h.os, h3.tape.trans h.tape, h3.output.trans h.output, Nat.le_trans h.size h3.size, fun k hk h5 h6 => ?_, fun j hj => ?_, h.fb⟩
  · rcases hv : (Value.slice B m d).ownBlock with _ | k
    · exact .inl rfl
    · exact .inr fun e => h.ne k e.symm hv
  · rcases h4 j hj with h5 | h5
    · exact h.ne j h5 hk
    · have := (World.ownsRow.lt h.b j hk).2
      omega
  · refine (h3.block k (by have := h.size; omega) fun e => ?_).trans (h.block k hk h5 h6)
    rcases h.fa k e.symm with h7 | h7
    · exact h5 h7.symm
    · omega
  · rcases h4 j hj with h5 | h5
    · exact h.fa j h5
    · have := h.size; exact .inr (by omega)
set_option maxRecDepth 100000 in
theorem Two.pushB {y : Value} {B' : Option Addr} {d' : Nat} (h : Two W ra rb base e1 e2 A n c xs B m d ys w) (h2 : w'.ownsRow base e2 1 (.slice B' (m + 1) d') (m + 1) (ys ++ [y])) (h3 : w.grownBy w' (Value.slice B m d).ownBlock)
    (h4 : FreshFrom w (.slice B m d) (.slice B' (m + 1) d')) : Two W ra rb base e1 e2 A n c xs B' (m + 1) d' (ys ++ [y]) w' := by
  refine ⟨World.ownsRow.kept h.a h3 ?_, h2, fun j hj hk => ?_, h3.os.trans h.os, h3.tape.trans h.tape, h3.output.trans h.output, Nat.le_trans h.size h3.size, fun k hk h5 h6 => ?_, h.fa, fun j hj => ?_⟩
  · rcases hv : (Value.slice A n c).ownBlock with _ | k
    · exact .inl rfl
    · exact .inr fun e => h.ne k hv e.symm
  · rcases h4 j hk with h5 | h5
    · exact h.ne j hj h5
    · have := (World.ownsRow.lt h.a j hj).2
      omega
  · refine (h3.block k (by have := h.size; omega) fun e => ?_).trans (h.block k hk h5 h6)
    rcases h.fb k e.symm with h7 | h7
    · exact h6 h7.symm
    · omega
  · rcases h4 j hj with h5 | h5
    · exact h.fb j h5
    · have := h.size; exact .inr (by omega)
set_option maxRecDepth 100000 in
theorem Two.below {V : World} (h : Two W ra rb base e1 e2 A n c xs B m d ys w) (hb : Below base V W) (hra : ∀ k, ra = some k → base ≤ k) (hrb : ∀ k, rb = some k → base ≤ k) (hs : base ≤ W.heap.size) : Below base V w :=
  ⟨h.os.trans hb.os, h.tape.trans hb.tape, h.output.trans hb.output, Nat.le_trans hb.size h.size, fun k hk => (h.block k (by omega) (fun e => by have := hra k e.symm; omega) (fun e => by have := hrb k e.symm; omega)).trans (hb.block k hk)⟩
set_option maxRecDepth 100000 in
theorem Two.blk {g : Nat} {t : TypeId} {cs : Array Value} (h : Two W ra rb base e1 e2 A n c xs B m d ys w) (hg : Blk W g t cs) (h1 : some g ≠ ra) (h2 : some g ≠ rb) : Blk w g t cs := (h.block g hg.lt h1 h2).trans hg
end
set_option maxRecDepth 100000 in
/-- The cell of a literal of one element. -/
theorem cell_lit {w : World} {g : Nat} {e : TypeId} {y : Value} (h : w.heap.size = g) : (w.alloc (.cells #[y] e)).cell? ⟨g, 0, none⟩ = some y := (Blk.new_at h).one
set_option maxRecDepth 100000 in
theorem cell_lit1 {w : World} {g : Nat} {e : TypeId} {y : Value} {o : Obj} (h : w.heap.size = g) : ((w.alloc (.cells #[y] e)).alloc o).cell? ⟨g, 0, none⟩ = some y := ((Blk.new_at h).alloc o).one
set_option maxRecDepth 100000 in
theorem cell_lit4 {w w' : World} {g : Nat} {e : TypeId} {y : Value} {row : Option Nat} (hg : (w.alloc (.cells #[y] e)).drew.grownBy w' row) (h : w.heap.size = g) (hne : some g ≠ row) : w'.cell? ⟨g, 0, none⟩ = some y :=
  hg.cell (w := (w.alloc (.cells #[y] e)).drew) (Blk.drew (Blk.new_at h)).one hne
set_option maxRecDepth 100000 in
theorem cell_lit5 {w w' : World} {g : Nat} {e : TypeId} {y : Value} {o : Obj} {row : Option Nat} (hg : ((w.alloc (.cells #[y] e)).alloc o).drew.grownBy w' row) (h : w.heap.size = g) (hne : some g ≠ row) : w'.cell? ⟨g, 0, none⟩ = some y :=
  hg.cell (w := ((w.alloc (.cells #[y] e)).alloc o).drew) (Blk.drew ((Blk.new_at h).alloc o)).one hne
set_option maxRecDepth 100000 in
/-- append of a number onto the first | the second of two own rows, as a step of a region that draws. -/
theorem stepA_int {ops : Array Oper} {o : Oper} {a : Act} {w : World} {K : Act → World → Prop} {Q : Exit → Act → World → Prop} {E : Prop} (hgd : o.guard = none) (s x : Operand)
    (ho : o.op = .call { callee := .builtin .append, args := #[s, x], argTypes := #[24, 24] }) {W : World} {ra rb : Option Nat} {base : Nat} {e2 : TypeId} {A B : Option Addr} {n c m d : Nat} {xs ys : List Value} (y : Int)
    (hs : a.eval s = .slice A n c) (h : Two W ra rb base 3 e2 A n c xs B m d ys w) (ad : Addr) (hx : a.eval x = .slice (some ad) 1 1) (hc : w.cell? ad = some (.int .i64 y)) (hn : n ≤ 1048576) (hbase : base ≤ W.heap.size)
    (hK : ∀ A' c' w', Two W ra rb base 3 e2 A' (n + 1) c' (xs ++ [.int .i64 y]) B m d ys w' → w.grownBy w' (Value.slice A n c).ownBlock → K (a.put o.dst (.slice A' (n + 1) c')) w') :
    if Region.wanted o (yielded ops a.tmps) = true then Oper.wp Tryz.prog o a w K Q else E := by
  have hw : Region.wanted o (yielded ops a.tmps) = true := by simp [Region.wanted, hgd]
  rw [if_pos hw]
  obtain ⟨i0, hi, hz0, hz1, hz2⟩ := info_parts Tryz.info3
  exact wp_push2 s x 24 3 ho i0 (.int .i64 0) 8 Tryz.underlying24 hi hz0 hz1 hz2 rfl hs h.a ad _ hx hc rfl (by unfold maxLen; omega) (by omega) (Nat.le_trans hbase h.size) fun A' c' w' h2 h3 h4 => hK A' c' w' (h.pushA h2 h3 h4) h3
set_option maxRecDepth 100000 in
theorem stepB_int {ops : Array Oper} {o : Oper} {a : Act} {w : World} {K : Act → World → Prop} {Q : Exit → Act → World → Prop} {E : Prop} (hgd : o.guard = none) (s x : Operand)
    (ho : o.op = .call { callee := .builtin .append, args := #[s, x], argTypes := #[24, 24] }) {W : World} {ra rb : Option Nat} {base : Nat} {e1 : TypeId} {A B : Option Addr} {n c m d : Nat} {xs ys : List Value} (y : Int)
    (hs : a.eval s = .slice B m d) (h : Two W ra rb base e1 3 A n c xs B m d ys w) (ad : Addr) (hx : a.eval x = .slice (some ad) 1 1) (hc : w.cell? ad = some (.int .i64 y)) (hn : m ≤ 1048576) (hbase : base ≤ W.heap.size)
    (hK : ∀ B' d' w', Two W ra rb base e1 3 A n c xs B' (m + 1) d' (ys ++ [.int .i64 y]) w' → w.grownBy w' (Value.slice B m d).ownBlock → K (a.put o.dst (.slice B' (m + 1) d')) w') :
    if Region.wanted o (yielded ops a.tmps) = true then Oper.wp Tryz.prog o a w K Q else E := by
  have hw : Region.wanted o (yielded ops a.tmps) = true := by simp [Region.wanted, hgd]
  rw [if_pos hw]
  obtain ⟨i0, hi, hz0, hz1, hz2⟩ := info_parts Tryz.info3
  exact wp_push2 s x 24 3 ho i0 (.int .i64 0) 8 Tryz.underlying24 hi hz0 hz1 hz2 rfl hs h.b ad _ hx hc rfl (by unfold maxLen; omega) (by omega) (Nat.le_trans hbase h.size) fun B' d' w' h2 h3 h4 => hK B' d' w' (h.pushB h2 h3 h4) h3
end Go.Proofs.YthncdjcmlpiebaaGreat
