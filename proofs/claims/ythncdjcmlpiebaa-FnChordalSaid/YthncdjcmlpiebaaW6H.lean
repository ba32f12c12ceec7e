/- Walks of chapter 6: what is filled along an order, the reference's. -/
import Derived.Test.YthncdjcmlpiebaaW6G
import Derived.Test.YthncdjcmlpiebaaW6F
import Derived.Test.YthncdjcmlpiebaaW2f
namespace Go.Proofs.Ythncdjcmlpiebaa
open Go.RowKit
set_option maxRecDepth 100000 in
set_option maxHeartbeats 4000000 in
theorem specFillOf_any (N : Int) (A B : Option Addr) (n c m d : Nat) (X l : List Int) (w : World) (hX : RI w A n X) (hL : RI w B m l) (hn : n ≤ 1048576) (hm : m ≤ 1048576) :
    Calls Try.prog 36 #[.agg #[.int .i64 N, .slice A n c], .slice B m d] w (GivesRB ((fillOf N X l).map row2) (isOrder N X l) w) := by
  have hbk := Blk.new w 26 #[.int .i64 N, .slice A n c]
  have hU0 : Up w (w.alloc (.cells #[.int .i64 N, .slice A n c] 26)) := by go_grown
  have hyb := hbk.two
  rcases isOrder_cases N X l with hg | ⟨hg, k, Q, o, rfl, rfl, rfl, h, ho, hol⟩
  · have H1 := Lib.hid hg
    rw [fillOf_no hg, hg]
    clear hg
    go_enter Try.func36, Try.ntmps36
    go_wp2_with fail
    refine (specIsOrder_is (hX.up hU0) (hL.up hU0) (by omega) (by omega) H1.out).mono ?_
    rintro e w1 ⟨rfl, hb1⟩
    have hU1 := Up.then_ hU0 hb1
    have hS := OwnS.made (w := w1) (g := w1.heap.size) (base := w.heap.size) rfl hU1.size
    have hU2 : Up w (w1.alloc (.cells #[] 24)) := Up.then_ hU1 (by go_grown)
    go_wp2
    go_ret2
    exact ⟨_, _, [], rfl, rfl, hS, hU2⟩
  · obtain rfl : n = k := by rw [← hX.1, ints_len, h.len]
    obtain rfl : m = n := by rw [← hL.1, ints_len, hol]
    have hn7 := h.le
    have hn1 := h.pos
    have H1 := Lib.hid hg
    rw [fillOf_ok hg h, hg]
    clear hg
    obtain ⟨ad, rfl, hab, _⟩ := hX.addr hn1
    obtain ⟨bd, rfl, hbb, _⟩ := hL.addr hn1
    have HR : fillL Q o m = newE Q (edges (fillK Q o m) m) (edges (fillK Q o m) m).length := by rw [newE, List.take_length]; rfl
    have HO := Lib.hid ho
    have HOL := Lib.hid hol
    have HQ := Lib.hid h
    have HLw := Lib.hid hL
    have HXw := Lib.hid hX
    have HFok := fillK_ok (o := o) h m
    obtain ⟨F, hF⟩ : ∃ F, F = fillK Q o m := ⟨_, rfl⟩
    have HFil : ∀ w', RI w' (some ad) m (ints Q) → RI w' (some bd) m (ints o) → Calls Try.prog 82 #[.agg #[.int .i64 m, .slice (some ad) m c], .slice (some bd) m d] w' (fun e w'' => ∃ g' d', e = .returned (.agg #[.int .i64 m, .slice (some ⟨g', 0, none⟩) m d']) ∧ OwnI w'' w'.heap.size (some ⟨g', 0, none⟩) m d' (ints F) ∧ Below w'.heap.size w' w'') := fun w' h1 h2 => by rw [hF]; exact l6Filled_any (some ad) (some bd) m c d Q o w' h1 h2 h ho hol
    rw [HR]
    rw [← hF] at HFok ⊢
    clear HR ho hol hF
    have hGE : (edgesOf (m : Nat) (ints F)) = edges F m := edgesOf_ok HFok
    have HE49 := edges_few (n := m) (Q := F) hn7
    have HELt := Lib.hid fun p (hp : p ∈ edges F m) => edges_lt hp
    obtain ⟨E, hE⟩ : ∃ E, E = edges F m := ⟨_, rfl⟩
    rw [← hE] at hGE HE49 HELt ⊢
    have HEE : ∀ (A2 : Option Addr) (c2 : Nat) w', RI w' A2 m (ints F) → Calls Try.prog 83 #[.agg #[.int .i64 (m : Nat), .slice A2 m c2]] w' (GivesS (E.map row2) w') := fun A2 c2 w' h' => by rw [← hGE]; exact specEdgesOf_any _ _ _ _ _ _ h' (by omega)
    clear hE hGE HFok
    go_enter Try.func36, Try.ntmps36
    go_wp2_with fail
    refine (specIsOrder_is (hX.up hU0) (hL.up hU0) (by omega) (by omega) H1.out).mono ?_
    rintro e w1 ⟨rfl, hb1⟩
    have hbk1 := hbk.up hb1
    have hU1 := Up.then_ hU0 hb1
    have hyb1 := hbk1.two
    clear hbk hU0 hb1 hyb
    go_wp2_with fail
    refine (HFil w1 (HXw.out.up hU1) (HLw.out.up hU1)).mono ?_
    rintro e w2 ⟨g', d', rfl, hO2, hb2⟩
    have hs2 := hb2.size
    have hU3 : Up w2 ((w2.alloc (.cells #[.int .i64 m, .slice (some ⟨g', 0, none⟩) m d'] 26)).alloc (.cells #[] 24)) := by go_grown
    have hS3 := OwnS.made (w := w2.alloc (.cells #[.int .i64 m, .slice (some ⟨g', 0, none⟩) m d'] 26)) (g := w2.heap.size + 1) (base := w.heap.size + 1) (by simp) (by have := hbk1.lt; omega)
    have hB3 := (Blk.new w2 26 #[.int .i64 m, .slice (some ⟨g', 0, none⟩) m d']).alloc (.cells #[] 24)
    have hbk3 := (hbk1.up hb2).up hU3
    have hO3 := hO2.ri.up hU3
    have hw3 := Up.then_ (Up.then_ hU1 hb2) hU3
    have hyB := hB3.two
    clear hbk1 hyb1 hO2 HFil hX hL
    go_wp2_with fail
    obtain ⟨go, hgo⟩ : ∃ go, go = w2.heap.size + 1 := ⟨_, rfl⟩
    rw [← hgo] at hS3 ⊢
    generalize (w2.alloc (.cells #[.int .i64 m, .slice (some ⟨g', 0, none⟩) m d'] 26)).alloc (.cells #[] 24) = w3 at hU3 hS3 hB3 hbk3 hO3 hw3 hyB ⊢
    clear hgo hU3 hU1 hb2 hs2
    refine (HEE _ _ _ hO3).mono ?_
    rintro e w4 ⟨AL, cL, qs, hqs, rfl, hoL, hb4⟩
    have hql : qs.length = E.length := by have := congrArg List.length hqs; simpa using this
    have HQs := Lib.hid hqs
    have hS4 := hS3.up hb4
    have hbk4 := hbk3.up hb4
    have hw4 := Up.then_ hw3 hb4
    have htop : ∀ j, (Value.slice (some ⟨go, 0, none⟩) 0 0).ownBlock = some j → (Value.slice AL qs.length cL).ownBlock ≠ some j := fun j e1 e2 => by
      have := (hoL.block j e2).1
      have := (hS3.block j e1).2
      omega
    have hLb : w.heap.size + 1 ≤ w3.heap.size := by have := hbk3.lt; omega
    clear hO3 hS3 hB3 hbk3 hw3 hb4 hyB HEE hqs
    obtain ⟨ml, hml⟩ : ∃ ml, ml = qs.length := ⟨_, rfl⟩
    have HM := Lib.hid hml
    have hm49 : ml ≤ 49 := by omega
    have hmE : ml = E.length := by omega
    have HME := Lib.hid hmE
    rw [← hml] at hoL htop ⊢
    clear hml hql hmE HE49
    have HN0 := Lib.hid (show newE Q E 0 = [] from rfl)
    have HNL := Lib.hid fun k => newE_len Q E k
    go_wp2_with fail
    go_loopw [7, 9] (fun s v wr => ∃ (i : Nat) (A4 : Option Addr) (c4 : Nat) (pk : List RowP), i ≤ ml ∧ v = .int .i64 i ∧ s = .slice A4 (newE Q E i).length c4 ∧ OwnS wr (w.heap.size + 1) A4 (newE Q E i).length c4 pk ∧ OwnS wr w3.heap.size AL ml cL qs ∧ Hid (pk.map Prod.snd = (newE Q E i).map row2 ∧ ∀ q ∈ pk, (∀ j, (rowV q).ownBlock = some j → j < w3.heap.size) ∨ q ∈ qs.take i) ∧ (∀ j, (Value.slice A4 (newE Q E i).length c4).ownBlock = some j → (Value.slice AL ml cL).ownBlock ≠ some j) ∧ Blk wr w.heap.size 26 #[.int .i64 m, .slice (some ad) m c] ∧ Below w.heap.size w wr) (fun _ v _ => ml - (intOf v).toNat)
    case atStart => exact ⟨0, some ⟨go, 0, none⟩, 0, [], Nat.zero_le _, rfl, by rw [HN0.out]; rfl, by rw [HN0.out]; exact hS4, hoL, ⟨by rw [HN0.out]; rfl, fun _ hq => by cases hq⟩, by rw [HN0.out]; exact htop, hbk4, hw4⟩
    case round =>
      clear hS4 hoL htop hbk4 hw4
      obtain ⟨i, A4, c4, pk, hi, rfl, rfl, hO4, hL4, hPk, htop, hbk, hwr⟩ := hrel
      obtain ⟨wi, rfl⟩ : ∃ wi : World, wi = wr := ⟨_, rfl⟩
      by_cases hil : i < ml
      · obtain ⟨gL, r2, d2, rfl, hkn, hc2, h02, h12, hlL, hlr2, hrow2, hqk⟩ := hL4.arcE HQs.out hil
        have hlt := HELt.out E[i] (List.getElem_mem hkn)
        have hnl := HNL.out i
        have HY := Lib.hid (fun h => newE_yes (Q := Q) hkn h)
        have HNo := Lib.hid (fun h => newE_no (Q := Q) hkn h)
        obtain ⟨p, hp⟩ : ∃ p, p = E[i] := ⟨_, rfl⟩
        rw [← hp] at h02 h12 hrow2 hqk hlt HY HNo
        clear hp
        obtain ⟨x, y⟩ := p
        simp only at h02 h12 hrow2 hqk hlt
        have hXi := HXw.out.up hwr
        obtain ⟨b, hb⟩ : ∃ b, b = (nb Q x).testBit y := ⟨_, rfl⟩
        have HB := Lib.hid hb.symm
        have HEb := Lib.hid (show edge Q x y = b by rw [hb]; rfl)
        clear hb
        have yhbk := hbk.two
        have lhbk := hbk.lt
        go_wp2
        have hV0 : Up wi wi.drew := (Up.refl _).drew
        refine wp_region_calm (S := (fun w' => Up wi w' ∧ (∀ b o, b < wi.heap.size → w'.cell? ⟨b, o, none⟩ = wi.cell? ⟨b, o, none⟩) ∧ w'.cell? (⟨gL, i, none⟩) = some (.slice (some ⟨r2, 0, none⟩) 2 d2) ∧ w'.cell? (⟨r2, 0, none⟩) = some (.int .i64 (x : Nat)) ∧ w'.cell? (⟨r2, 1, none⟩) = some (.int .i64 (y : Nat)))) (by kernel_rfl) (by kernel_rfl) (by exact ⟨hV0, fun _ _ hb => hV0.cell hb, (hV0.cell (by first | assumption | (rw [block_of_add]; assumption))).trans (by assumption), (hV0.cell (by first | assumption | (rw [block_of_add]; assumption))).trans (by assumption), (hV0.cell (by first | assumption | (rw [block_of_add]; assumption))).trans (by assumption)⟩) ?_
        repeat (first | (refine CalmSeq.cons undef (Calm.off (by rfl)) ?_; (try simp only [Act.put, List.setIfInBounds_toArray, List.set_cons_zero, List.set_cons_succ])) | (refine CalmSeq.cons ?_ (Calm.val (by rfl) ?_) ?_; rotate_left; (intro wC hSw; (try dsimp only at hSw); go_simp; done); (try simp only [Act.put, List.setIfInBounds_toArray, List.set_cons_zero, List.set_cons_succ])) | (refine CalmSeq.cons ?_ (Calm.val (by rfl) ?_) ?_; rotate_left; (intro wC hSw; (try dsimp only at hSw); go_simp; with_reducible rfl); (try simp only [Act.put, List.setIfInBounds_toArray, List.set_cons_zero, List.set_cons_succ])) | ((refine CalmSeq.cons ?_ (Calm.call (f := ?_) (args := ?_) (by rfl) ?_ (fun wC hSw => ?_)) ?_; rotate_left 3; (intro wC; go_simp; (refine ⟨?_, ?_⟩ <;> with_reducible rfl)); (go_at_call 69; (with_reducible refine (l2Edge_is (hXi.up hSw.1) HQ.out hlt.1 hlt.2 HB.out).mono ?_); rintro e wD ⟨rfl, hbD⟩; apply And.intro; (with_reducible rfl); (have hUD := Up.then_ hSw.1 hbD; exact ⟨hUD, fun _ _ hb => hUD.cell hb, (hUD.cell (by first | assumption | (rw [block_of_add]; assumption))).trans (by assumption), (hUD.cell (by first | assumption | (rw [block_of_add]; assumption))).trans (by assumption), (hUD.cell (by first | assumption | (rw [block_of_add]; assumption))).trans (by assumption)⟩))); (try simp only [Act.put, List.setIfInBounds_toArray, List.set_cons_zero, List.set_cons_succ])))
        intro w6 hS6
        have hU6 : Up wi w6 := hS6.1
        clear hS6 hV0
        replace hbk := hbk.up hU6
        replace yhbk := hbk.two
        replace lhbk := hbk.lt
        have hO5 := hO4.up hU6
        have hL5 := hL4.up hU6
        have hw5 := Up.then_ hwr hU6
        have hc5 := (hU6.cell hlL).trans hc2
        cases b
        · have HN := Lib.hid (HY.out HEb.out)
          have HMp := Lib.hid (show List.map Prod.snd (pk ++ [(((some (⟨r2, 0, none⟩ : Addr), d2), [(x : Int), (y : Int)]) : RowP)]) = (newE Q E i ++ [(x, y)]).map row2 by rw [List.map_append, hPk.out.1]; simp [row2])
          have hrow5 := (show OwnI w6 (w.heap.size + 1) (some ⟨r2, 0, none⟩) 2 d2 [(x : Int), (y : Int)] from (hrow2.up hU6).more hLb).alloc (.cells #[.slice (some ⟨r2, 0, none⟩) 2 d2] 24)
          have hap := shared_apartE hL5 hPk.out.2 hqk rfl
          have hcell := cell_lit (w := w6) (g := w6.heap.size) (e := 24) (y := .slice (some ⟨r2, 0, none⟩) 2 d2) (by simp)
          have hsz6 := hw5.size
          have hwl := hbk.lt
          have hnl49 : (newE Q E i).length ≤ 49 := by have := HME.out; omega
          clear h02 h12 hc2 HY HNo HEb HB
          go_wp2_with (at_builtin; refine wpList_pushE rfl (.tmp 42) (.tmp 47) rfl ((some ⟨r2, 0, none⟩, d2), [(x : Int), (y : Int)]) rfl (hO5.alloc _) ⟨w6.heap.size, 0, none⟩ rfl hcell hrow5 hap (by omega) (by simp; omega) ?_; intro A7 c7 w7 hO7 hg7 hb7 hF7)
          go_roundw
          case rel =>
            refine ⟨i + 1, A7, c7, pk ++ [((some ⟨r2, 0, none⟩, d2), [(x : Int), (y : Int)])], by omega, by go_num, by rw [HN.out]; simp, by rw [HN.out, List.length_append, List.length_singleton]; exact hO7, (hL5.alloc _).kept_topE (hO5.alloc _).top hg7 htop, ⟨by rw [HN.out]; exact HMp.out, fun q hq => ?_⟩, fun j e => ?_, (hbk.alloc _).below hb7 (by omega), (hw5.alloc hsz6 _).trans (hb7.mono (by omega))⟩
            · rcases List.mem_append.1 hq with hq | hq
              · exact (hPk.out.2 q hq).imp id fun h => List.take_subset_take_left qs (Nat.le_succ i) h
              · obtain rfl : q = _ := List.mem_singleton.1 hq
                refine .inr (List.mem_of_getElem? (i := i) ?_)
                rw [List.getElem?_take_of_lt (Nat.lt_succ_self i)]
                exact hqk
            · rw [HN.out, List.length_append, List.length_singleton] at e
              rcases hF7 j e with e | e
              · exact htop j e
              · intro e2
                have := (hL5.block j e2).2
                simp at e
                omega
          case measure => simp [intOf]; omega
        · have HN := Lib.hid (HNo.out HEb.out)
          clear h02 h12 hc2 HY HNo HEb HB
          go_wp2
          go_roundw
          case rel => exact ⟨i + 1, A4, c4, pk, by omega, by go_num, by rw [HN.out], by rw [HN.out]; exact hO5, hL5, ⟨by rw [HN.out]; exact hPk.out.1, fun q hq => (hPk.out.2 q hq).imp id fun h => List.take_subset_take_left qs (Nat.le_succ i) h⟩, by rw [HN.out]; exact htop, hbk, hw5⟩
          case measure => simp [intOf]; omega
      · obtain rfl : i = ml := by omega
        have HP := Lib.hid (show pk.map Prod.snd = (newE Q E E.length).map row2 by rw [hPk.out.1, HME.out])
        have hpl : pk.length = (newE Q E i).length := hO4.len
        have hlb := hbk.lt
        go_wp2
        go_ret2
        refine ⟨A4, c4, pk, HP.out, ?_, by rw [hpl]; exact hO4.more (by omega), hwr⟩
        rw [hpl]; rfl
end Go.Proofs.Ythncdjcmlpiebaa
