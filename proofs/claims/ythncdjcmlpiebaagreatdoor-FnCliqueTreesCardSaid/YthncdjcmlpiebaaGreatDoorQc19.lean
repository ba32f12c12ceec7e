/- Walks of chapter 8: CliqueTreeOf, the reference's. Walks of chapter 8: the reference's graph of a tree of bags. Walks of chapter 9: is it a model of a graph. Texts, plain: numbers, sets, trees and intervals as bytes. No program in sight. The library's contracts for strings.Join and strconv.Itoa (below 100), laid at this seat's translation (written by the kit's tools lay-shelf and lay-plain for this seat; other seats have other numbers). -/
import Derived.Test.YthncdjcmlpiebaaGreatDoorProg
import Derived.Test.YthncdjcmlpiebaaGreatDoorQc01
import Derived.Test.YthncdjcmlpiebaaGreatDoorQc02
import Derived.Test.YthncdjcmlpiebaaGreatDoorQc13
import Derived.Test.YthncdjcmlpiebaaGreatDoorQc14
import Derived.Deep.RegionWith
import Derived.Laws.Concat
import Derived.Lib.ItoaNum
import Derived.Shelf.LaysM
import Derived.Shelf.Strconv.Itoa0
import Derived.Shelf.Strconv.Itoa1
import Derived.Shelf.Strconv.Itoa2
import Derived.Shelf.Strconv.Itoa3
import Derived.Shelf.Strings.Builder1
import Derived.Shelf.Strings.Builder2
import Derived.Shelf.Strings.OnBuilder
namespace Go.Proofs.YthncdjcmlpiebaaGreatDoor
open Go.RowKit
set_option maxRecDepth 100000 in
theorem wpList_pushA {ops : Array Oper} {rest : List Oper} {o : Oper} {a : Act} {Q : Exit → Act → World → Prop} {w : World} (hgd : o.guard = none) (s x : Operand)
    (ho : o.op = .call { callee := .builtin .append, args := #[s, x], argTypes := #[24, 24] }) {W : World} {ra rb : Option Nat} {base : Nat} {e2 : TypeId} {A B : Option Addr} {n c m d : Nat} {xs ys : List Value} (y : Int)
    (hs : a.eval s = .slice A n c) (h : Two W ra rb base 3 e2 A n c xs B m d ys w) (ad : Addr) (hx : a.eval x = .slice (some ad) 1 1) (hc : w.cell? ad = some (.int .i64 y)) (hn : n ≤ 1048576) (hbase : base ≤ W.heap.size)
    (hK : ∀ A' c' w', Two W ra rb base 3 e2 A' (n + 1) c' (xs ++ [.int .i64 y]) B m d ys w' → wpList Tryz.prog ops Q rest (a.put o.dst (.slice A' (n + 1) c')) w') : wpList Tryz.prog ops Q (o :: rest) a w :=
  wpList_plain hgd fun K hK' => by
    have hw : Region.wanted o (yielded ops a.tmps) = true := by simp [Region.wanted, hgd]
    have := stepA_int (ops := ops) (K := K) (Q := Q) (E := False) hgd s x ho y hs h ad hx hc hn hbase fun A' c' w' h1 _ => hK' _ _ (hK A' c' w' h1)
    rwa [if_pos hw] at this
set_option maxRecDepth 100000 in
theorem wpList_pushB {ops : Array Oper} {rest : List Oper} {o : Oper} {a : Act} {Q : Exit → Act → World → Prop} {w : World} (hgd : o.guard = none) (s x : Operand)
    (ho : o.op = .call { callee := .builtin .append, args := #[s, x], argTypes := #[24, 24] }) {W : World} {ra rb : Option Nat} {base : Nat} {e1 : TypeId} {A B : Option Addr} {n c m d : Nat} {xs ys : List Value} (y : Int)
    (hs : a.eval s = .slice B m d) (h : Two W ra rb base e1 3 A n c xs B m d ys w) (ad : Addr) (hx : a.eval x = .slice (some ad) 1 1) (hc : w.cell? ad = some (.int .i64 y)) (hn : m ≤ 1048576) (hbase : base ≤ W.heap.size)
    (hK : ∀ B' d' w', Two W ra rb base e1 3 A n c xs B' (m + 1) d' (ys ++ [.int .i64 y]) w' → wpList Tryz.prog ops Q rest (a.put o.dst (.slice B' (m + 1) d')) w') : wpList Tryz.prog ops Q (o :: rest) a w :=
  wpList_plain hgd fun K hK' => by
    have hw : Region.wanted o (yielded ops a.tmps) = true := by simp [Region.wanted, hgd]
    have := stepB_int (ops := ops) (K := K) (Q := Q) (E := False) hgd s x ho y hs h ad hx hc hn hbase fun B' d' w' h1 _ => hK' _ _ (hK B' d' w' h1)
    rwa [if_pos hw] at this
set_option maxRecDepth 100000 in
theorem specCount_is {s x : Nat} {w : World} (hs : s < 128) (h : card s = x) : Calls Tryz.prog 20 #[.int .i64 s] w fun e w' => e = .returned (.int .i64 (x : Nat)) ∧ Below w.heap.size w w' := by
  subst h; exact specCountSet_any s w hs
set_option maxRecDepth 100000 in
theorem l8Has_up {A : Option Addr} {n c : Nat} {v : Int} {xs : List Int} {w : World} {b : Bool} (hA : RI w A n xs) (hn : n ≤ 9223372036854775807) (h : decide (v ∈ xs) = b) :
    Calls Tryz.prog 83 #[.slice A n c, .int .i64 v] w fun e w' => e = .returned (.bool b) ∧ Below w.heap.size w w' :=
  (l8Has_is hA hn h).mono fun _ _ k => ⟨k.1, k.2 ▸ Below.refl _ _⟩
set_option maxRecDepth 100000 in
set_option maxHeartbeats 8000000 in
theorem specCliqueTreeOf_any (N : Int) (A : Option Addr) (n c : Nat) (X : List Int) (w : World) (hX : RI w A n X) (hn : n ≤ 9223372036854775807) :
    Calls Tryz.prog 34 #[.agg #[.int .i64 N, .slice A n c]] w (GivesTB (ctOf N X).1 (ctOf N X).2.1 (ctOf N X).2.2 w) := by
  have hG := (Blk.new w 29 #[.int .i64 N, .slice A n c]).alloc (.cells #[.slice none 0 0, .slice none 0 0] 49)
  have hM : Blk ((w.alloc (.cells #[.int .i64 N, .slice A n c] 29)).alloc (.cells #[.slice none 0 0, .slice none 0 0] 49)) (w.heap.size + 1) 49 #[.slice none 0 0, .slice none 0 0] := Blk.new_at (by simp)
  have hU0 : Up w ((w.alloc (.cells #[.int .i64 N, .slice A n c] 29)).alloc (.cells #[.slice none 0 0, .slice none 0 0] 49)) := by go_grown
  obtain ⟨b, hb⟩ : ∃ b, b = (elimOf N X).isSome := ⟨_, rfl⟩
  have HC := Lib.hid hb.symm
  clear hb
  cases b
  · rw [ctOf_no HC.out]
    go_enter Tryz.func34, Tryz.ntmps34
    go_wp2_with fail
    refine (specIsChordal_is (hX.up hU0) hn HC.out).mono ?_
    rintro e w1 ⟨rfl, hb1⟩
    have hU1 : Up w w1 := Up.then_ hU0 hb1
    replace hM := hM.up hb1
    have f0 := hM.frozen 0
    have f1 := hM.frozen 1
    have hy := hM.two
    have hl := hM.lt
    have hfin := ((hM.set_ 0 (.slice none 0 0)).set_ 1 (.slice none 0 0)).two
    have hbf := (hU1.setCell (p := ⟨w.heap.size + 1, 0, none⟩) (by simp) (.slice none 0 0)).setCell (p := ⟨w.heap.size + 1, 1, none⟩) (by simp) (.slice none 0 0)
    clear hG
    go_wp2
    generalize (w1.setCell ⟨w.heap.size + 1, 0, none⟩ (.slice none 0 0)).setCell ⟨w.heap.size + 1, 1, none⟩ (.slice none 0 0) = Wf at hfin hbf ⊢
    refine bodyPost_ret (v := .tuple #[.agg #[.slice none 0 0, .slice none 0 0], .bool false]) ?_ rfl ?_
    · simp [results, Tryz.results34, go_sem, hfin]
    exact tB_none hbf
  · have hok := cliques_ok HC.out
    have hnd := cliques_nodup HC.out
    rw [ctOf_yes HC.out]
    obtain ⟨L, hL⟩ : ∃ L, L = maxCliquesOf N X := ⟨_, rfl⟩
    rw [← hL] at hok hnd ⊢
    have HL := Lib.hid hL
    clear hL
    obtain ⟨hL7, hL0, hL128⟩ := hok
    have HS := Lib.hid (ctB_spec hnd (b := 2 ^ 7) (by decide) hL7)
    have HB7 := Lib.hid (nb_lt_all (Nat.two_pow_pos 7) hL7)
    clear hnd hL7
    go_enter Tryz.func34, Tryz.ntmps34
    go_wp2_with fail
    refine (specIsChordal_is (hX.up hU0) hn HC.out).mono ?_
    rintro e w1 ⟨rfl, hb1⟩
    have hU1 : Up w w1 := Up.then_ hU0 hb1
    replace hM := hM.up hb1
    replace hG := hG.up hb1
    have hyG := hG.two
    have hlG := hG.lt
    clear hU0
    go_wp2_with fail
    refine (specCliques_out (hX.up hU1) hn).mono ?_
    rintro e w2 ⟨AC, cC, rfl, hownC, hb2⟩
    rw [← HL.out] at hownC ⊢
    have hU2 : Up w w2 := Up.then_ hU1 hb2
    replace hM := hM.up hb2
    have hlM : w.heap.size + 1 < w2.heap.size := hM.lt
    obtain ⟨gC, rfl⟩ := hownC.form hL0
    have hriC := hownC.ri
    obtain ⟨aC, e, hc0⟩ := hriC.ints_at hL0
    injection e with e
    subst e
    have hc0' : w2.cell? ⟨gC, 0, none⟩ = some (.int .i64 (nb L 0)) := by rw [add_0_] at hc0; exact hc0
    obtain ⟨x0, hx0⟩ : ∃ x0, x0 = nb L 0 := ⟨_, rfl⟩
    rw [← hx0] at hc0' hc0
    obtain ⟨w3, hw3⟩ : ∃ w3, w3 = ((w2.alloc (.cells #[.int .i64 (x0 : Int)] 3)).alloc (.cells #[.int .i64 (-1)] 3)).alloc (.cells #[.slice (some ⟨w2.heap.size, 0, none⟩) 1 1, .slice (some ⟨w2.heap.size + 1, 0, none⟩) 1 1] 49) := ⟨_, rfl⟩
    have hrA : Blk w3 w2.heap.size 3 #[.int .i64 (x0 : Int)] := by rw [hw3]; exact ((Blk.new w2 _ _).alloc _).alloc _
    have hrB : Blk w3 (w2.heap.size + 1) 3 #[.int .i64 (-1)] := by rw [hw3]; exact (Blk.new_at (by simp)).alloc _
    have hbt : Blk w3 (w2.heap.size + 1 + 1) 49 #[.slice (some ⟨w2.heap.size, 0, none⟩) 1 1, .slice (some ⟨w2.heap.size + 1, 0, none⟩) 1 1] := by rw [hw3]; exact Blk.new_at (by simp)
    have hU3 : Up w2 w3 := by rw [hw3]; go_grown
    have hoA : OwnI w3 w2.heap.size (some ⟨w2.heap.size, 0, none⟩) 1 1 (ints (ctB L 0).1) := by
      have := hrA.own (base := w2.heap.size) (n := 1) (Nat.le_refl _) rfl (by decide)
      unfold OwnI; rw [show (ctB L 0).1 = [x0] by rw [hx0]; rfl]; exact this
    have hoB : OwnI w3 w2.heap.size (some ⟨w2.heap.size + 1, 0, none⟩) 1 1 (ctB L 0).2 := hrB.own (base := w2.heap.size) (n := 1) (by omega) rfl (by decide)
    obtain ⟨bt, hbt'⟩ : ∃ bt, bt = w2.heap.size + 1 + 1 := ⟨_, rfl⟩
    have hbtge : w2.heap.size ≤ bt := by omega
    have hne0 : ∀ j, (Value.slice (some ⟨w2.heap.size, 0, none⟩) 1 1).ownBlock = some j → (Value.slice (some ⟨w2.heap.size + 1, 0, none⟩) 1 1).ownBlock ≠ some j := by
      intro j h1 h2
      simp [Value.ownBlock] at h1 h2
      omega
    clear hx0 hrA hrB hyG hlG hG
    go_wp2_with fail
    rw [← hw3, ← hbt']
    rw [← hbt'] at hbt
    clear hw3 hbt' hc0 hc0'
    go_loopg [6] (L.length - 1) (fun g _ wr => ∃ (m j : Nat) (A1 B1 : Option Addr) (c1 d1 : Nat), Hid (j = m + 1) ∧ j + g = L.length ∧ OwnI wr w2.heap.size A1 j c1 (ints (ctB L m).1) ∧ OwnI wr w2.heap.size B1 j d1 (ctB L m).2 ∧ (∀ i, (Value.slice A1 j c1).ownBlock = some i → (Value.slice B1 j d1).ownBlock ≠ some i) ∧ Blk wr bt 49 #[.slice A1 j c1, .slice B1 j d1] ∧ Below w2.heap.size w2 wr)
    case atStart => exact ⟨0, 1, _, _, 1, 1, rfl, by omega, hoA, hoB, hne0, hbt, hU3⟩
    case round =>
      clear hoA hoB hne0 hbt hU3
      obtain ⟨m, j, A1, B1, c1, d1, hjm, hjg, hoA, hoB, hne, hbt, hb⟩ := hrel
      obtain ⟨wo, rfl⟩ : ∃ wo : World, wo = wr := ⟨_, rfl⟩
      have hbc0 := hbt.two.1
      have hbc1 := hbt.two.2
      have hbl := hbt.lt
      have hj1 : 1 ≤ j := by have := hjm.out; omega
      by_cases hjt : j < L.length
      · have hsp := HS.out m (by have := hjm.out; omega)
        obtain ⟨hl1, hl2, hbg7, s, hs⟩ := hsp
        have hs' := hs (by have := hjm.out; omega)
        obtain ⟨bg, hbg⟩ : ∃ bg, bg = (ctB L m).1 := ⟨_, rfl⟩
        obtain ⟨pr, hpr⟩ : ∃ pr, pr = (ctB L m).2 := ⟨_, rfl⟩
        have HSt := Lib.hid (ctB_step hs')
        have HMem := Lib.hid (allB_mem _ (Nat.le_refl _) s hs')
        rw [← hbg] at hs' hl1 hbg7 hoA HSt HMem
        rw [← hpr] at hoB hl2 HSt
        rw [show bg.length = j by have := hjm.out; omega] at hs' HMem
        have Hs := Lib.hid hs'
        have Hl1 := Lib.hid (show bg.length = j by have := hjm.out; omega)
        have HG7 := Lib.hid (nb_lt_all (Nat.two_pow_pos 7) hbg7)
        clear hs hs' hbg hpr hl1 hl2 hbg7
        obtain ⟨gA, rfl⟩ := hoA.form hj1
        obtain ⟨gB, rfl⟩ := hoB.form hj1
        go_wp2_with fail
        go_loopw [6, 7, 8, 9] (fun z1 z2 z3 i wr => ∃ i' : Nat, i' ≤ j ∧ i = .int .i64 (i' : Nat) ∧ z1 = .int .i64 (cliqB (-1) (allB L bg i')) ∧ z2 = .int .i64 (parB (-1) (allB L bg i')) ∧ z3 = .int .i64 (mostB (allB L bg i')) ∧ Up wo wr) (fun _ _ _ i _ => j - (intOf i).toNat)
        case atStart => exact ⟨0, Nat.zero_le _, rfl, rfl, rfl, rfl, Up.refl _⟩
        case round =>
          clear hbc0 hbc1 hbl
          obtain ⟨i, hi, rfl, rfl, rfl, rfl, hbi⟩ := hrel
          obtain ⟨wi, rfl⟩ : ∃ wi : World, wi = wr := ⟨_, rfl⟩
          have hbti := hbt.up hbi
          have hbi0 := hbti.two.1
          have hbi1 := hbti.two.2
          have hbil := hbti.lt
          by_cases hit : i < j
          · have hoAi := hoA.up hbi
            have hRo := Lib.hid (show rowB L bg i (allB L bg i) L.length = allB L bg (i + 1) from rfl)
            have hy7 := HG7.out i
            obtain ⟨st, hst⟩ : ∃ st, st = allB L bg i := ⟨_, rfl⟩
            rw [← hst] at hRo ⊢
            clear hst
            obtain ⟨y, hy⟩ : ∃ y, y = nb bg i := ⟨_, rfl⟩
            rw [← hy] at hy7
            have HY := Lib.hid hy
            clear hy
            go_wp2_with fail
            go_loopw [6, 7, 8, 10] (fun z1 z2 z3 k wr => ∃ k' : Nat, k' ≤ L.length ∧ k = .int .i64 (k' : Nat) ∧ z1 = .int .i64 (cliqB (-1) (rowB L bg i st k')) ∧ z2 = .int .i64 (parB (-1) (rowB L bg i st k')) ∧ z3 = .int .i64 (mostB (rowB L bg i st k')) ∧ Up wi wr) (fun _ _ _ k _ => L.length - (intOf k).toNat)
            case atStart => exact ⟨0, Nat.zero_le _, rfl, rfl, rfl, rfl, Up.refl _⟩
            case round =>
              clear hbi0 hbi1 hbil
              obtain ⟨k, hk, rfl, rfl, rfl, rfl, hbk⟩ := hrel
              obtain ⟨wk, rfl⟩ : ∃ wk : World, wk = wr := ⟨_, rfl⟩
              by_cases hkt : k < L.length
              · have hbk2 := Up.then_ hbi hbk
                have hriCk := hriC.up (hb.trans (hbk2.mono hb.size))
                obtain ⟨ak, e, hck⟩ := hriCk.ints_at hkt
                injection e with e
                subst e
                rw [add_0_] at hck
                have hx7 := HB7.out k
                have hoAk := hoAi.up hbk
                obtain ⟨ai, e, hcb⟩ := hoAk.ri.ints_at hit
                injection e with e
                subst e
                rw [add_0_, ← HY.out] at hcb
                have hbtk := hbti.up hbk
                have hbtc := hbtk.two.1
                have hbtl := hbtk.lt
                have hlA : gA < wk.heap.size := (hoAk.block gA rfl).2
                have hlC : gC < wk.heap.size := World.block_lt_of_cell? wk _ hck
                have HPI := Lib.hid (show decide (nb L k ∈ bg) = true → rowB L bg i st (k + 1) = rowB L bg i st k from fun h => pickB_in h)
                have HPF := Lib.hid (show ¬ mostB (rowB L bg i st k) < (comm L bg i k : Nat) → rowB L bg i st (k + 1) = rowB L bg i st k from fun h => pickB_few h)
                have HPN := Lib.hid (show decide (nb L k ∈ bg) = false → mostB (rowB L bg i st k) < (comm L bg i k : Nat) → rowB L bg i st (k + 1) = some (nb L k, i, comm L bg i k) from fun h h2 => pickB_new h h2)
                have HCo := Lib.hid (show comm L bg i k = card (nb bg i &&& nb L k) by rw [Nat.and_comm]; rfl)
                rw [← HY.out] at HCo
                obtain ⟨cn, hcn⟩ : ∃ cn, cn = comm L bg i k := ⟨_, rfl⟩
                rw [← hcn] at HPF HPN HCo
                obtain ⟨mo, hmo⟩ : ∃ mo, mo = mostB (rowB L bg i st k) := ⟨_, rfl⟩
                obtain ⟨x, hx⟩ : ∃ x, x = nb L k := ⟨_, rfl⟩
                rw [← hx] at hx7 hck HPI HPN HCo
                rw [← hmo] at HPF HPN ⊢
                have Hmo := Lib.hid hmo
                clear hcn hx hmo
                have hand := i64_and7 hy7 hx7
                have hz7 : y &&& x < 128 := Nat.lt_of_le_of_lt Nat.and_le_left hy7
                obtain ⟨z, hz⟩ : ∃ z, z = y &&& x := ⟨_, rfl⟩
                rw [← hz] at hand hz7 HCo
                clear hz
                have hj9 : j ≤ 9223372036854775807 := by omega
                obtain ⟨bh, hbh⟩ : ∃ bh, bh = decide (x ∈ bg) := ⟨_, rfl⟩
                have HH := Lib.hid (show decide ((x : Int) ∈ ints bg) = bh by rw [dec_mem]; exact hbh.symm)
                have HH2 := Lib.hid hbh.symm
                clear hbh
                go_wp2
                go_wp2
                have hV0 : Up wk wk.drew := (Up.refl _).drew
                refine wp_region_calm (S := (fun w' => Up wk w' ∧ (∀ b o, b < wk.heap.size → w'.cell? ⟨b, o, none⟩ = wk.cell? ⟨b, o, none⟩) ∧ w'.cell? (⟨bt, 0, none⟩) = some (.slice (some ⟨gA, 0, none⟩) j c1) ∧ w'.cell? (⟨gA, i, none⟩) = some (.int .i64 y) ∧ w'.cell? (⟨gC, k, none⟩) = some (.int .i64 x))) (by kernel_rfl) (by kernel_rfl) (by exact ⟨hV0, fun _ _ hb => hV0.cell hb, (hV0.cell (by first | assumption | (rw [block_of_add]; assumption))).trans (by assumption), (hV0.cell (by first | assumption | (rw [block_of_add]; assumption))).trans (by assumption), (hV0.cell (by first | assumption | (rw [block_of_add]; assumption))).trans (by assumption)⟩) ?_
                repeat (first | (refine CalmSeq.cons undef (Calm.off (by rfl)) ?_; (try simp only [Act.put, List.setIfInBounds_toArray, List.set_cons_zero, List.set_cons_succ])) | (refine CalmSeq.cons ?_ (Calm.val (by rfl) ?_) ?_; rotate_left; (intro wC hSw; (try dsimp only at hSw); go_simp; done); (try simp only [Act.put, List.setIfInBounds_toArray, List.set_cons_zero, List.set_cons_succ])) | (refine CalmSeq.cons ?_ (Calm.val (by rfl) ?_) ?_; rotate_left; (intro wC hSw; (try dsimp only at hSw); go_simp; with_reducible rfl); (try simp only [Act.put, List.setIfInBounds_toArray, List.set_cons_zero, List.set_cons_succ])) | ((refine CalmSeq.cons ?_ (Calm.call (f := ?_) (args := ?_) (by rfl) ?_ (fun wC hSw => ?_)) ?_; rotate_left 3; (intro wC; go_simp; (refine ⟨?_, ?_⟩ <;> with_reducible rfl)); (go_at_call 20; (with_reducible refine (specCount_is hz7 HCo.out.symm).mono ?_); rintro e wD ⟨rfl, hbD⟩; apply And.intro; (with_reducible rfl); (have hUD := Up.then_ hSw.1 hbD; exact ⟨hUD, fun _ _ hb => hUD.cell hb, (hUD.cell (by first | assumption | (rw [block_of_add]; assumption))).trans (by assumption), (hUD.cell (by first | assumption | (rw [block_of_add]; assumption))).trans (by assumption), (hUD.cell (by first | assumption | (rw [block_of_add]; assumption))).trans (by assumption)⟩))); (try simp only [Act.put, List.setIfInBounds_toArray, List.set_cons_zero, List.set_cons_succ])))
                intro w5 hS5
                have hU5 : Up wk w5 := hS5.1
                clear hS5 hV0
                have hoA5 := hoAk.up hU5
                have hbt5 := hbtk.up hU5
                replace hck := (hU5.cell (p := ⟨gC, k, none⟩) hlC).trans hck
                replace hbtc := hbt5.two.1
                replace hbtl := hbt5.lt
                replace hlC := Nat.lt_of_lt_of_le hlC hU5.size
                clear hcb hlA hand
                cases bh
                · by_cases hlt : mo < (cn : Int)
                  · have d1 : decide (mo < (cn : Int)) = true := decide_eq_true hlt
                    have HR := Lib.hid (HPN.out HH2.out hlt)
                    go_wp2
                    go_wp2
                    have hV0 : Up w5 w5.drew := (Up.refl _).drew
                    refine wp_region_calm (S := (fun w' => Up w5 w' ∧ (∀ b o, b < w5.heap.size → w'.cell? ⟨b, o, none⟩ = w5.cell? ⟨b, o, none⟩) ∧ w'.cell? (⟨bt, 0, none⟩) = some (.slice (some ⟨gA, 0, none⟩) j c1) ∧ w'.cell? (⟨gC, k, none⟩) = some (.int .i64 x))) (by kernel_rfl) (by kernel_rfl) (by exact ⟨hV0, fun _ _ hb => hV0.cell hb, (hV0.cell (by first | assumption | (rw [block_of_add]; assumption))).trans (by assumption), (hV0.cell (by first | assumption | (rw [block_of_add]; assumption))).trans (by assumption)⟩) ?_
                    repeat (first | (refine CalmSeq.cons undef (Calm.off (by rfl)) ?_; (try simp only [Act.put, List.setIfInBounds_toArray, List.set_cons_zero, List.set_cons_succ])) | (refine CalmSeq.cons ?_ (Calm.val (by rfl) ?_) ?_; rotate_left; (intro wC hSw; (try dsimp only at hSw); go_simp; done); (try simp only [Act.put, List.setIfInBounds_toArray, List.set_cons_zero, List.set_cons_succ])) | (refine CalmSeq.cons ?_ (Calm.val (by rfl) ?_) ?_; rotate_left; (intro wC hSw; (try dsimp only at hSw); go_simp; with_reducible rfl); (try simp only [Act.put, List.setIfInBounds_toArray, List.set_cons_zero, List.set_cons_succ])) | ((refine CalmSeq.cons ?_ (Calm.call (f := ?_) (args := ?_) (by rfl) ?_ (fun wC hSw => ?_)) ?_; rotate_left 3; (intro wC; go_simp; (refine ⟨?_, ?_⟩ <;> with_reducible rfl)); (go_at_call 83; (with_reducible refine (l8Has_up (hoA5.ri.up hSw.1) hj9 HH.out).mono ?_); rintro e wD ⟨rfl, hbD⟩; apply And.intro; (with_reducible rfl); (have hUD := Up.then_ hSw.1 hbD; exact ⟨hUD, fun _ _ hb => hUD.cell hb, (hUD.cell (by first | assumption | (rw [block_of_add]; assumption))).trans (by assumption), (hUD.cell (by first | assumption | (rw [block_of_add]; assumption))).trans (by assumption)⟩))); (try simp only [Act.put, List.setIfInBounds_toArray, List.set_cons_zero, List.set_cons_succ])))
                    intro w6 hS6
                    have hU6 : Up w5 w6 := hS6.1
                    clear hS6 hV0
                    have hck6 := (hU6.cell (p := ⟨gC, k, none⟩) hlC).trans hck
                    have hU56 := Up.then_ hbk (Up.then_ hU5 hU6)
                    go_wp2
                    go_roundw
                    case rel => exact ⟨k + 1, by omega, by go_num, by rw [HR.out]; rfl, by rw [HR.out]; rfl, by rw [HR.out]; rfl, hU56⟩
                    case measure => simp [intOf]; omega
                  · have d1 : decide (mo < (cn : Int)) = false := decide_eq_false hlt
                    have HR := Lib.hid (HPF.out (by omega))
                    go_wp2
                    go_wp2
                    have hV0 : Up w5 w5.drew := (Up.refl _).drew
                    refine wp_region_calm (S := (fun w' => Up w5 w' ∧ (∀ b o, b < w5.heap.size → w'.cell? ⟨b, o, none⟩ = w5.cell? ⟨b, o, none⟩) ∧ w'.cell? (⟨bt, 0, none⟩) = some (.slice (some ⟨gA, 0, none⟩) j c1) ∧ w'.cell? (⟨gC, k, none⟩) = some (.int .i64 x))) (by kernel_rfl) (by kernel_rfl) (by exact ⟨hV0, fun _ _ hb => hV0.cell hb, (hV0.cell (by first | assumption | (rw [block_of_add]; assumption))).trans (by assumption), (hV0.cell (by first | assumption | (rw [block_of_add]; assumption))).trans (by assumption)⟩) ?_
                    repeat (first | (refine CalmSeq.cons undef (Calm.off (by rfl)) ?_; (try simp only [Act.put, List.setIfInBounds_toArray, List.set_cons_zero, List.set_cons_succ])) | (refine CalmSeq.cons ?_ (Calm.val (by rfl) ?_) ?_; rotate_left; (intro wC hSw; (try dsimp only at hSw); go_simp; done); (try simp only [Act.put, List.setIfInBounds_toArray, List.set_cons_zero, List.set_cons_succ])) | (refine CalmSeq.cons ?_ (Calm.val (by rfl) ?_) ?_; rotate_left; (intro wC hSw; (try dsimp only at hSw); go_simp; with_reducible rfl); (try simp only [Act.put, List.setIfInBounds_toArray, List.set_cons_zero, List.set_cons_succ])) | ((refine CalmSeq.cons ?_ (Calm.call (f := ?_) (args := ?_) (by rfl) ?_ (fun wC hSw => ?_)) ?_; rotate_left 3; (intro wC; go_simp; (refine ⟨?_, ?_⟩ <;> with_reducible rfl)); (go_at_call 83; (with_reducible refine (l8Has_up (hoA5.ri.up hSw.1) hj9 HH.out).mono ?_); rintro e wD ⟨rfl, hbD⟩; apply And.intro; (with_reducible rfl); (have hUD := Up.then_ hSw.1 hbD; exact ⟨hUD, fun _ _ hb => hUD.cell hb, (hUD.cell (by first | assumption | (rw [block_of_add]; assumption))).trans (by assumption), (hUD.cell (by first | assumption | (rw [block_of_add]; assumption))).trans (by assumption)⟩))); (try simp only [Act.put, List.setIfInBounds_toArray, List.set_cons_zero, List.set_cons_succ])))
                    intro w6 hS6
                    have hU6 : Up w5 w6 := hS6.1
                    clear hS6 hV0
                    have hU56 := Up.then_ hbk (Up.then_ hU5 hU6)
                    go_wp2
                    go_roundw
                    case rel => exact ⟨k + 1, by omega, by go_num, by rw [HR.out], by rw [HR.out], by rw [HR.out, Hmo.out], hU56⟩
                    case measure => simp [intOf]; omega
                · have HR := Lib.hid (HPI.out HH2.out)
                  go_wp2
                  go_wp2
                  have hV0 : Up w5 w5.drew := (Up.refl _).drew
                  refine wp_region_calm (S := (fun w' => Up w5 w' ∧ (∀ b o, b < w5.heap.size → w'.cell? ⟨b, o, none⟩ = w5.cell? ⟨b, o, none⟩) ∧ w'.cell? (⟨bt, 0, none⟩) = some (.slice (some ⟨gA, 0, none⟩) j c1) ∧ w'.cell? (⟨gC, k, none⟩) = some (.int .i64 x))) (by kernel_rfl) (by kernel_rfl) (by exact ⟨hV0, fun _ _ hb => hV0.cell hb, (hV0.cell (by first | assumption | (rw [block_of_add]; assumption))).trans (by assumption), (hV0.cell (by first | assumption | (rw [block_of_add]; assumption))).trans (by assumption)⟩) ?_
                  repeat (first | (refine CalmSeq.cons undef (Calm.off (by rfl)) ?_; (try simp only [Act.put, List.setIfInBounds_toArray, List.set_cons_zero, List.set_cons_succ])) | (refine CalmSeq.cons ?_ (Calm.val (by rfl) ?_) ?_; rotate_left; (intro wC hSw; (try dsimp only at hSw); go_simp; done); (try simp only [Act.put, List.setIfInBounds_toArray, List.set_cons_zero, List.set_cons_succ])) | (refine CalmSeq.cons ?_ (Calm.val (by rfl) ?_) ?_; rotate_left; (intro wC hSw; (try dsimp only at hSw); go_simp; with_reducible rfl); (try simp only [Act.put, List.setIfInBounds_toArray, List.set_cons_zero, List.set_cons_succ])) | ((refine CalmSeq.cons ?_ (Calm.call (f := ?_) (args := ?_) (by rfl) ?_ (fun wC hSw => ?_)) ?_; rotate_left 3; (intro wC; go_simp; (refine ⟨?_, ?_⟩ <;> with_reducible rfl)); (go_at_call 83; (with_reducible refine (l8Has_up (hoA5.ri.up hSw.1) hj9 HH.out).mono ?_); rintro e wD ⟨rfl, hbD⟩; apply And.intro; (with_reducible rfl); (have hUD := Up.then_ hSw.1 hbD; exact ⟨hUD, fun _ _ hb => hUD.cell hb, (hUD.cell (by first | assumption | (rw [block_of_add]; assumption))).trans (by assumption), (hUD.cell (by first | assumption | (rw [block_of_add]; assumption))).trans (by assumption)⟩))); (try simp only [Act.put, List.setIfInBounds_toArray, List.set_cons_zero, List.set_cons_succ])))
                  intro w6 hS6
                  have hU6 : Up w5 w6 := hS6.1
                  clear hS6 hV0
                  have hU56 := Up.then_ hbk (Up.then_ hU5 hU6)
                  go_wp2
                  go_roundw
                  case rel => exact ⟨k + 1, by omega, by go_num, by rw [HR.out], by rw [HR.out], by rw [HR.out, Hmo.out], hU56⟩
                  case measure => simp [intOf]; omega
              · obtain rfl : k = L.length := by omega
                rw [hRo.out]
                go_wp2
                go_roundw
                case rel => exact ⟨i + 1, by omega, by go_num, rfl, rfl, rfl, Up.then_ hbi hbk⟩
                case measure => simp [intOf]; omega
          · obtain rfl : i = j := by omega
            rw [Hs.out]
            have hA2 := hoA.up hbi
            have hB2 := hoB.up hbi
            have T0 := Two.start (W := wi) (base := w2.heap.size) hA2 hB2 hne
            have hna : some bt ≠ (Value.slice (some ⟨gA, 0, none⟩) i c1).ownBlock := Ne.symm (own_blk_ne (e := 3) hA2 hbti (by decide))
            have hnb : some bt ≠ (Value.slice (some ⟨gB, 0, none⟩) i d1).ownBlock := Ne.symm (own_blk_ne (e := 3) hB2 hbti (by decide))
            have hsz2 : w2.heap.size ≤ wi.heap.size := Nat.le_trans hb.size hbi.size
            obtain ⟨p1, hp1⟩ : ∃ p1 : Nat, p1 = s.1 := ⟨_, rfl⟩
            obtain ⟨p2, hp2⟩ : ∃ p2 : Nat, p2 = s.2.1 := ⟨_, rfl⟩
            have eF := Lib.hid (show List.map (Value.int .i64) (ints bg) ++ [.int .i64 (p1 : Int)] = List.map (Value.int .i64) (ints (ctB L (m + 1)).1) by rw [HSt.out, hp1]; simp [ints])
            have eG := Lib.hid (show List.map (Value.int .i64) pr ++ [.int .i64 (p2 : Int)] = List.map (Value.int .i64) (ctB L (m + 1)).2 by rw [HSt.out, hp2]; simp)
            rw [show cliqB (-1) (some s) = (p1 : Int) by rw [hp1]; rfl, show parB (-1) (some s) = (p2 : Int) by rw [hp2]; rfl]
            have hbwi := Lib.hid (hb.trans (hbi.mono hb.size))
            have hra := Lib.hid (show ∀ k', (Value.slice (some ⟨gA, 0, none⟩) i c1).ownBlock = some k' → w2.heap.size ≤ k' from fun k' e => (hA2.block k' e).1)
            have hrb := Lib.hid (show ∀ k', (Value.slice (some ⟨gB, 0, none⟩) i d1).ownBlock = some k' → w2.heap.size ≤ k' from fun k' e => (hB2.block k' e).1)
            have HJ2 := Lib.hid (show i + 1 = m + 1 + 1 by rw [hjm.out])
            have hi1 : i ≤ 1048576 := by omega
            have hcell := cell_lit (w := wi) (e := 3) (y := .int .i64 (p1 : Int)) rfl
            have TA := T0.alloc (.cells #[.int .i64 (p1 : Int)] 3)
            clear hp1 hp2 hbt hA2 hB2 hoA hoB hne hM hU1 hU2 hb hbi hb1 hb2 hownC hriC HB7 HG7 HS Hs HSt HMem hX HL HC Hl1
            go_wp2_with (at_builtin; first
              | (refine wpList_pushA rfl (.tmp 74) (.tmp 76) rfl (p1 : Int) rfl TA ⟨wi.heap.size, 0, none⟩ rfl hcell hi1 hsz2 ?_; intro A7 c7 w7 T7; have hbm7 := T7.blk hbti hna hnb; have hx7 := hbm7.two; have hl7 := hbm7.lt; have f70 := hbm7.frozen 0; have hbm8 := hbm7.set_ 0 (.slice A7 (i + 1) c7); have hx8 := hbm8.two; have f81 := hbm8.frozen 1; have hA7 : OwnI w7 w2.heap.size A7 (i + 1) c7 (ints (ctB L (m + 1)).1) := (by unfold OwnI; rw [← eF.out]; exact T7.a); have hB7 : OwnI w7 w2.heap.size (some ⟨gB, 0, none⟩) i d1 pr := T7.b; have hw7 := T7.below hbwi.out hra.out hrb.out hsz2; have hA8 := hA7.other_store (i := 0) hbm7 (by decide) (.slice A7 (i + 1) c7); have hB8 := hB7.other_store (i := 0) hbm7 (by decide) (.slice A7 (i + 1) c7); have hw8 := hw7.setCell (p := ⟨bt, 0, none⟩) hbtge (.slice A7 (i + 1) c7); have T8 := (Two.start (W := w7.setCell ⟨bt, 0, none⟩ (.slice A7 (i + 1) c7)) (base := w2.heap.size) hA8 hB8 T7.ne).alloc (.cells #[.int .i64 (p2 : Int)] 3); have hcell8 := cell_lit (w := w7.setCell ⟨bt, 0, none⟩ (.slice A7 (i + 1) c7)) (e := 3) (y := .int .i64 (p2 : Int)) (g := w7.heap.size) (by simp); have hsz8 : w2.heap.size ≤ (w7.setCell ⟨bt, 0, none⟩ (.slice A7 (i + 1) c7)).heap.size := hw8.size; have hna8 : some bt ≠ (Value.slice A7 (i + 1) c7).ownBlock := Ne.symm (own_blk_ne (e := 3) hA8 hbm8 (by decide)); have hnb8 : some bt ≠ (Value.slice (some ⟨gB, 0, none⟩) i d1).ownBlock := Ne.symm (own_blk_ne (e := 3) hB8 hbm8 (by decide)))
              | (refine wpList_pushB rfl (.tmp 80) (.tmp 82) rfl (p2 : Int) rfl T8 ⟨w7.heap.size, 0, none⟩ rfl hcell8 hi1 hsz8 ?_; intro B9 d9 w9 T9; have hbm9 := T9.blk hbm8 hna8 hnb8; have hx9 := hbm9.two; have hl9 := hbm9.lt; have f91 := hbm9.frozen 1))
            have hA9 : OwnI w9 w2.heap.size A7 (i + 1) c7 (ints (ctB L (m + 1)).1) := T9.a
            have hB9 : OwnI w9 w2.heap.size B9 (i + 1) d9 (ctB L (m + 1)).2 := by unfold OwnI; rw [← eG.out]; exact T9.b
            have hn9 := T9.ne
            have hw9 := T9.below hw8 (fun k' e => (hA8.block k' e).1) (fun k' e => (hB8.block k' e).1) hsz8
            go_roundg (gk - 1)
            case measure => omega
            case rel => exact ⟨m + 1, i + 1, A7, B9, c7, d9, HJ2.out, by omega, hA9.other_store (i := 1) hbm9 (by decide) _, hB9.other_store (i := 1) hbm9 (by decide) _, hn9, hbm9.set_ 1 _, hw9.setCell (p := ⟨bt, 1, none⟩) hbtge _⟩
      · have hjL : j = L.length := by omega
        have HR := Lib.hid (show L.length - 1 = m by rw [← hjL, hjm.out, Nat.add_sub_cancel])
        have hl := HS.out m (by have := hjm.out; omega)
        have HLe := Lib.hid (show (ints (ctB L m).1).length = j ∧ (ctB L m).2.length = j by rw [ints_len, hl.1, hl.2.1]; exact ⟨hjm.out.symm, hjm.out.symm⟩)
        have hnot : ¬ j < L.length := hjt
        have hM5 := hM.below hb hlM
        have f0 := hM5.frozen 0
        have f1 := hM5.frozen 1
        have hyM := hM5.two
        have hlM5 := hM5.lt
        have hsz : w.heap.size ≤ w2.heap.size := hU2.size
        have hbw : Below w.heap.size w wo := hU2.trans (hb.mono hsz)
        have hneM : (w.heap.size + 1) ≠ bt := by omega
        have hfin := ((hM5.set_ 0 (.slice A1 j c1)).set_ 1 (.slice B1 j d1)).two
        have hA3 := (hoA.other_store (i := 0) hM5 (by decide) (.slice A1 j c1)).other_store (i := 1) (hM5.set_ 0 (.slice A1 j c1)) (by decide) (.slice B1 j d1)
        have hB3 := (hoB.other_store (i := 0) hM5 (by decide) (.slice A1 j c1)).other_store (i := 1) (hM5.set_ 0 (.slice A1 j c1)) (by decide) (.slice B1 j d1)
        have hbf := (hbw.setCell (p := ⟨w.heap.size + 1, 0, none⟩) (by simp) (.slice A1 j c1)).setCell (p := ⟨w.heap.size + 1, 1, none⟩) (by simp) (.slice B1 j d1)
        clear hjL hoA hoB hl hjt
        go_wp2
        generalize (wo.setCell ⟨w.heap.size + 1, 0, none⟩ (.slice A1 j c1)).setCell ⟨w.heap.size + 1, 1, none⟩ (.slice B1 j d1) = Wf at hfin hA3 hB3 hbf ⊢
        refine bodyPost_ret (v := .tuple #[.agg #[.slice A1 j c1, .slice B1 j d1], .bool true]) ?_ rfl ?_
        · simp [results, Tryz.results34, go_sem, hfin]
        rw [HR.out]
        exact ⟨A1, c1, B1, d1, by rw [HLe.out.1, HLe.out.2], (hA3.cast HLe.out.1.symm rfl).more hsz, (hB3.cast HLe.out.2.symm rfl).more hsz, by rw [HLe.out.1, HLe.out.2]; exact hne, hbf⟩
end Go.Proofs.YthncdjcmlpiebaaGreatDoor
namespace Go.Proofs.YthncdjcmlpiebaaGreatDoor
open Go.RowKit
set_option maxRecDepth 100000 in
set_option maxHeartbeats 4000000 in
theorem specGraphOfTree_any (A B : Option Addr) (m m' ca cb : Nat) (L R : List Int) (N : Int) (w : World) (hL : RI w A m L) (hR : RI w B m' R) (hm : m ≤ 1048576) (hm' : m' ≤ 1048576) :
    Calls Tryz.prog 45 #[.agg #[.slice A m ca, .slice B m' cb], .int .i64 N] w (GivesGB (goTNum L R N) (goTRows L R N) (hasGoT L R N) w) := by
  have HL := Lib.hid hL.1
  rcases isTree_cases L R with hg | ⟨hg, b, rfl, hb128, hb1, hb20, _⟩
  · have Hg := Lib.hid hg
    have HR := Lib.hid (goT_no (hasGoT_tree (n := N) hg))
    have HB := Lib.hid (hasGoT_tree (n := N) hg)
    clear hg
    rw [HR.out.1, HR.out.2, HB.out]
    go_enter Tryz.func45, Tryz.ntmps45
    go_wp2_with fail
    refine (specIsTree_is (hL.up (by go_grown)) (hR.up (by go_grown)) hm hm' Hg.out).mono ?_
    rintro e w1 ⟨rfl, hb1⟩
    have hU1 : Up w w1 := Up.then_ (by go_grown) hb1
    have hbr := (Blk.new_at (w := w.alloc (.cells #[.slice A m ca, .slice B m' cb] 49)) (t := 29) (cs := #[.int .i64 0, .slice none 0 0]) (g := w.heap.size + 1) (by simp)).up hb1
    have f0 := hbr.frozen 0
    have f1 := hbr.frozen 1
    have hyb := hbr.two
    have hfin := ((hbr.set_ 0 (.int .i64 0)).set_ 1 (.slice none 0 0)).two
    have hbf := (hU1.setCell (p := ⟨w.heap.size + 1, 0, none⟩) (by simp) (.int .i64 0)).setCell (p := ⟨w.heap.size + 1, 1, none⟩) (by simp) (.slice none 0 0)
    go_wp2
    generalize (w1.setCell ⟨w.heap.size + 1, 0, none⟩ (.int .i64 0)).setCell ⟨w.heap.size + 1, 1, none⟩ (.slice none 0 0) = Wf at hfin hbf ⊢
    refine bodyPost_ret (v := .tuple #[.agg #[.int .i64 0, .slice none 0 0], .bool false]) ?_ rfl ?_
    · simp [results, Tryz.results45, go_sem, hfin]
    exact ⟨none, 0, rfl, OwnI.nil_ _ _, hbf⟩
  · have Hg := Lib.hid hg
    clear hg
    by_cases hN : 1 ≤ N ∧ N ≤ 7
    rotate_left
    · have HR := Lib.hid (goT_no (hasGoT_num (B := ints b) (P := R) hN))
      have HB := Lib.hid (hasGoT_num (B := ints b) (P := R) hN)
      rw [HR.out.1, HR.out.2, HB.out]
      go_enter Tryz.func45, Tryz.ntmps45
      go_wp2_with fail
      refine (specIsTree_is (hL.up (by go_grown)) (hR.up (by go_grown)) hm hm' Hg.out).mono ?_
      rintro e w1 ⟨rfl, hb1⟩
      have hU1 : Up w w1 := Up.then_ (by go_grown) hb1
      have hbr := (Blk.new_at (w := w.alloc (.cells #[.slice A m ca, .slice B m' cb] 49)) (t := 29) (cs := #[.int .i64 0, .slice none 0 0]) (g := w.heap.size + 1) (by simp)).up hb1
      have f0 := hbr.frozen 0
      have f1 := hbr.frozen 1
      have hyb := hbr.two
      have hfin := ((hbr.set_ 0 (.int .i64 0)).set_ 1 (.slice none 0 0)).two
      have hbf := (hU1.setCell (p := ⟨w.heap.size + 1, 0, none⟩) (by simp) (.int .i64 0)).setCell (p := ⟨w.heap.size + 1, 1, none⟩) (by simp) (.slice none 0 0)
      go_wp2_with (go_at_call 95; refine ((l1In_no _ _ _ _ hN).mono fun _ _ h => And.intro h.1 h.2.symm).mono ?_; rintro e w' ⟨rfl, rfl⟩)
      generalize (w1.setCell ⟨w.heap.size + 1, 0, none⟩ (.int .i64 0)).setCell ⟨w.heap.size + 1, 1, none⟩ (.slice none 0 0) = Wf at hfin hbf ⊢
      refine bodyPost_ret (v := .tuple #[.agg #[.int .i64 0, .slice none 0 0], .bool false]) ?_ rfl ?_
      · simp [results, Tryz.results45, go_sem, hfin]
      exact ⟨none, 0, rfl, OwnI.nil_ _ _, hbf⟩
    · obtain ⟨n, rfl⟩ : ∃ n : Nat, N = n := ⟨N.toNat, by omega⟩
      have h1 : 1 ≤ n := by omega
      have h7 : n ≤ 7 := by omega
      have Hout := Lib.hid fun j (hj : j < b.length) (h : ¬ nb b j < 2 ^ n) => hasGoT_out (P := R) hj h
      have Hyes := Lib.hid fun h => hasGoT_yes (b := b) Hg.out h1 h7 h
      have HT := Lib.hid fun k h => tE_ok (n := n) (B := b) h1 h7 k h
      obtain rfl : m = b.length := by rw [← HL.out, ints_len]
      have H128 := Lib.hid hb128
      clear hb128
      go_enter Tryz.func45, Tryz.ntmps45
      go_wp2_with fail
      refine (specIsTree_is (hL.up (by go_grown)) (hR.up (by go_grown)) hm hm' Hg.out).mono ?_
      rintro e w1 ⟨rfl, hb1⟩
      have hU1 : Up w w1 := Up.then_ (by go_grown) hb1
      replace hL := hL.up hU1
      have hbt := ((Blk.new w 49 #[.slice A b.length ca, .slice B m' cb]).alloc (.cells #[.int .i64 0, .slice none 0 0] 29)).up hb1
      have hbr := (Blk.new_at (w := w.alloc (.cells #[.slice A b.length ca, .slice B m' cb] 49)) (t := 29) (cs := #[.int .i64 0, .slice none 0 0]) (g := w.heap.size + 1) (by simp)).up hb1
      have hmk := make_ints n (by omega)
      have hgn := (Blk.new w1 3 (natCells (tE n b 0))).alloc (.cells #[.int .i64 n, .slice (some ⟨w1.heap.size, 0, none⟩) n n] 29)
      have Hz : natCells (tE n b 0) = zeros n := by rw [tE, natCells_zero]
      have hb5 := Blk.new_at (w := w1.alloc (.cells (natCells (tE n b 0)) 3)) (t := 29) (cs := #[.int .i64 n, .slice (some ⟨w1.heap.size, 0, none⟩) n n]) (g := w1.heap.size + 1) (by simp)
      rw [Hz] at hgn hb5
      have hyt := fun o o' => ((hbt.alloc o).alloc o').two
      have hpp := p2_le h7
      obtain ⟨aL, rfl, _, _⟩ := hL.addr (by omega)
      go_wp2_with (go_at_call 95; refine (l1In_eq hN).mono ?_; rintro e w' ⟨rfl, rfl⟩)
      clear hmk hyt
      have hown0 : OwnI ((w1.alloc (.cells (zeros n) 3)).alloc (.cells #[.int .i64 n, .slice (some ⟨w1.heap.size, 0, none⟩) n n] 29)) w1.heap.size (some ⟨w1.heap.size, 0, none⟩) n n (ints (tE n b 0)) := by
        rw [← Hz] at hgn
        have := (show Blk ((w1.alloc (.cells (zeros n) 3)).alloc (.cells #[.int .i64 n, .slice (some ⟨w1.heap.size, 0, none⟩) n n] 29)) w1.heap.size 3 (natCells (tE n b 0)) by rw [Hz] at hgn ⊢; exact hgn).own (base := w1.heap.size) (n := n) (Nat.le_refl _) (by rw [natCells_size, tE]; simp) (by unfold maxLen; omega)
        exact this
      clear hgn
      go_loopw [7] (fun i wr => ∃ (k g d : Nat), k ≤ b.length ∧ i = .int .i64 k ∧ OwnI wr w1.heap.size (some ⟨g, 0, none⟩) n d (ints (tE n b k)) ∧ Blk wr (w1.heap.size + 1) 29 #[.int .i64 n, .slice (some ⟨g, 0, none⟩) n d] ∧ Below w1.heap.size w1 wr ∧ Hid (∀ j, j < k → nb b j < 2 ^ n)) (fun i _ => b.length - (intOf i).toNat)
      case atStart => exact ⟨0, _, _, Nat.zero_le _, rfl, hown0, hb5, by go_grown, fun j hj => absurd hj (by omega)⟩
      case round =>
        clear hown0 hb5
        obtain ⟨k, g, d, hk, rfl, hown, hb5, hb, hall⟩ := hrel
        obtain ⟨wo, rfl⟩ : ∃ wo : World, wo = wr := ⟨_, rfl⟩
        have hyt := (hbt.up hb).two
        by_cases hlt : k < b.length
        · have hcl := (hL.up hb).nbs hlt
          have h128 := H128.out k
          have hsh := shl_p2 (k := n) (by omega)
          by_cases hbag : nb b k < 2 ^ n
          · have HQ := Lib.hid (HT.out k hall.out)
            have HN := Lib.hid (show tE n b (k + 1) = qE (tE n b k) (listOf (nb b k)) (listOf (nb b k)).length from rfl)
            obtain ⟨Q, hQ⟩ : ∃ Q, Q = tE n b k := ⟨_, rfl⟩
            rw [← hQ] at hown HQ HN
            clear hQ
            obtain ⟨x, hx⟩ : ∃ x, x = nb b k := ⟨_, rfl⟩
            rw [← hx] at hcl h128 hbag HN
            have Hx := Lib.hid hx
            clear hx
            have HV := Lib.hid (listOf_verts hbag)
            have HB := Lib.hid hbag
            have hll := listOf_len x
            have hlp : x < p2 n := hbag
            have hge : decide ((p2 n : Int) ≤ (x : Int)) = false := decide_eq_false (by omega)
            obtain ⟨l, hl⟩ : ∃ l, l = listOf x := ⟨_, rfl⟩
            have Hl := Lib.hid hl
            rw [← hl] at HN hll HV
            have hg0 : OwnI wo w1.heap.size (some ⟨g, 0, none⟩) n d (ints (qE Q l 0)) := hown
            clear hbag hl hown
            go_wp2_with fail
            go_quiet (fail)
            have hcl2 : (wo.drewN 0).cell? (aL.add k) = some (.int .i64 x) := hcl
            clear hcl2
            go_wp2_with (go_at_call 73; refine (specListOf_any x _ (by omega)).mono ?_; intro e w3 hg3; obtain ⟨B3, d3, rfl, hown3, hb3⟩ := hg3.out; clear hg3; rw [← Hl.out] at hown3 ⊢)
            have hbase : w1.heap.size + 1 < wo.heap.size := by have := hb5.lt; omega
            have hL3 : OwnI w3 wo.heap.size B3 l.length d3 (ints l) := hown3
            have hgw3 : OwnI w3 w1.heap.size (some ⟨g, 0, none⟩) n d (ints (qE Q l 0)) := (hg0.drewN _).up hb3
            have hb53 : Blk w3 (w1.heap.size + 1) 29 #[.int .i64 n, .slice (some ⟨g, 0, none⟩) n d] := (hb5.drewN _).up hb3
            have hbw3 : Below w1.heap.size w1 w3 := Up.then_ (below_drewN hb _) hb3
            clear hown3 hg0 hb3
            go_loopw [9] (fun s wr => ∃ (i g d : Nat), i ≤ l.length ∧ s = .int .i64 i ∧ OwnI wr w1.heap.size (some ⟨g, 0, none⟩) n d (ints (qE Q l i)) ∧ Blk wr (w1.heap.size + 1) 29 #[.int .i64 n, .slice (some ⟨g, 0, none⟩) n d] ∧ Below w1.heap.size w1 wr ∧ OwnI wr wo.heap.size B3 l.length d3 (ints l)) (fun s _ => l.length - (intOf s).toNat)
            case atStart => exact ⟨0, _, _, Nat.zero_le _, rfl, hgw3, hb53, hbw3, hL3⟩
            case round =>
              clear hgw3 hb53 hbw3 hL3 hb5
              obtain ⟨i, g, d, hi, rfl, hown, hb5, hbi, hl3⟩ := hrel
              obtain ⟨wi, rfl⟩ : ∃ wi : World, wi = wr := ⟨_, rfl⟩
              by_cases hit : i < l.length
              · have HQi := Lib.hid (qE_ok HQ.out HV.out i hi)
                have HNi := Lib.hid (show qE Q l (i + 1) = pE (qE Q l i) l i i from rfl)
                obtain ⟨Qi, hQi⟩ : ∃ Qi, Qi = qE Q l i := ⟨_, rfl⟩
                rw [← hQi] at hown HQi HNi
                clear hQi
                have hown2 : OwnI wi w1.heap.size (some ⟨g, 0, none⟩) n d (ints (pE Qi l i 0)) := hown
                clear hown
                go_wp2_with fail
                go_loopw [10] (fun s wr => ∃ (j g d : Nat), j ≤ i ∧ s = .int .i64 j ∧ OwnI wr w1.heap.size (some ⟨g, 0, none⟩) n d (ints (pE Qi l i j)) ∧ Blk wr (w1.heap.size + 1) 29 #[.int .i64 n, .slice (some ⟨g, 0, none⟩) n d] ∧ Below w1.heap.size w1 wr ∧ OwnI wr wo.heap.size B3 l.length d3 (ints l)) (fun s _ => i - (intOf s).toNat)
                case atStart => exact ⟨0, _, _, Nat.zero_le _, rfl, hown2, hb5, hbi, hl3⟩
                case round =>
                  clear hown2 hb5 hbi hl3
                  obtain ⟨j, g, d, hj, rfl, hown, hb5, hbj, hl3⟩ := hrel
                  obtain ⟨wj, rfl⟩ : ∃ wj : World, wj = wr := ⟨_, rfl⟩
                  by_cases hjt : j < i
                  · have hjl : j < l.length := by omega
                    obtain ⟨ad, rfl, hcv⟩ := hl3.ri.nb_at hit
                    have hcx := hl3.ri.nbs hjl
                    have hP := Lib.hid (pE_ok HQi.out HV.out hit j hj)
                    have HS := Lib.hid (show pE Qi l i (j + 1) = addE (pE Qi l i j) (nb l i) (nb l j) from rfl)
                    obtain ⟨T, hT⟩ : ∃ T, T = pE Qi l i j := ⟨_, rfl⟩
                    rw [← hT] at hown hP HS
                    clear hT
                    have hvn := HV.out.at_ hit
                    have hxn := HV.out.at_ hjl
                    have hne : nb l i ≠ nb l j := fun e => by have := HV.out.inj hit hjl e; omega
                    obtain ⟨v, hv⟩ : ∃ v, v = nb l i := ⟨_, rfl⟩
                    rw [← hv] at hcv hvn hne HS
                    clear hv
                    obtain ⟨y, hy⟩ : ∃ y, y = nb l j := ⟨_, rfl⟩
                    rw [← hy] at hcx hxn hne HS
                    clear hy
                    have hyb := hb5.two
                    go_wp2_with fail
                    have hyb2 : wj.drew.cell? ⟨w1.heap.size + 1, 0, none⟩ = some (.int .i64 n) ∧ wj.drew.cell? ⟨w1.heap.size + 1, 1, none⟩ = some (.slice (some ⟨g, 0, none⟩) n d) := hyb
                    have hcv2 : wj.drew.cell? (ad.add i) = some (.int .i64 v) := hcv
                    have hcx2 : wj.drew.cell? (ad.add j) = some (.int .i64 y) := hcx
                    go_region_with (refine ((addEdge_ok ⟨g, 0, none⟩ n d v y T _ hown.drew.ri hP.out hvn hxn hne).mono fun e w' hg => hg.out (by rw [addE_len, hP.out.len]) (by omega)).mono ?_; rintro e w4 ⟨g', d', rfl, hown4, hb4⟩; have hb54 := hb5.drew.up hb4; have hyb4 := hb54.two; have f0 := hb54.frozen 0; have f1 := hb54.frozen 1)
                    all_goals
                      have hw4 := Up.then_ hbj.drew hb4
                      have hl4 := hl3.drew.up hb4
                      replace hown4 := hown4.more (base' := w1.heap.size) hbj.size
                      rw [← HS.out] at hown4
                      go_wp2_with fail
                      go_roundw
                      case rel => exact ⟨j + 1, g', d', by omega, by go_num, (hown4.other_store (i := 0) hb54 (by decide) (.int .i64 n)).other_store (i := 1) (hb54.set_ 0 (.int .i64 n)) (by decide) (.slice (some ⟨g', 0, none⟩) n d'), (hb54.set_ 0 (.int .i64 n)).set_ 1 (.slice (some ⟨g', 0, none⟩) n d'), (hw4.setCell (p := ⟨w1.heap.size + 1, 0, none⟩) (by simp) (.int .i64 n)).setCell (p := ⟨w1.heap.size + 1, 1, none⟩) (by simp) (.slice (some ⟨g', 0, none⟩) n d'), (hl4.other_store (i := 0) hb54 (by decide) (.int .i64 n)).other_store (i := 1) (hb54.set_ 0 (.int .i64 n)) (by decide) (.slice (some ⟨g', 0, none⟩) n d')⟩
                      case measure => simp [intOf]; omega
                  · obtain rfl : j = i := by omega
                    go_wp2
                    go_roundw
                    case rel => exact ⟨j + 1, g, d, by omega, by go_num, by rw [HNi.out]; exact hown, hb5, hbj, hl3⟩
                    case measure => simp [intOf]; omega
              · obtain rfl : i = l.length := by omega
                go_wp2
                go_roundw
                case rel => exact ⟨k + 1, g, d, by omega, by go_num, by rw [HN.out]; exact hown, hb5, hbi, fun i hi => by
                  rcases Nat.lt_succ_iff_lt_or_eq.1 hi with h' | rfl
                  · exact hall.out i h'
                  · rw [← Hx.out]; exact HB.out⟩
                case measure => simp [intOf]; omega
          · have hlp : p2 n ≤ nb b k := by unfold p2; omega
            have HO := Lib.hid (Hout.out k hlt hbag)
            have HG := Lib.hid (goT_no HO.out)
            rw [HG.out.1, HG.out.2, HO.out]
            obtain ⟨x, hx⟩ : ∃ x, x = nb b k := ⟨_, rfl⟩
            rw [← hx] at hcl h128 hlp
            clear hx hbag
            have hge : decide ((p2 n : Int) ≤ (x : Int)) = true := decide_eq_true (by omega)
            have hbr2 := hbr.up hb
            have f0 := fun k => (hbr2.drewN k).frozen 0
            have f1 := fun k => (hbr2.drewN k).frozen 1
            have hyr := fun k => (hbr2.drewN k).two
            go_wp2_with fail
            go_quiet (fail)
            have hfin := (((hbr2.drewN nq).set_ 0 (.int .i64 0)).set_ 1 (.slice none 0 0)).two
            have hbf := ((below_drewN (Up.then_ hU1 hb) nq).setCell (p := ⟨w.heap.size + 1, 0, none⟩) (by simp) (.int .i64 0)).setCell (p := ⟨w.heap.size + 1, 1, none⟩) (by simp) (.slice none 0 0)
            go_wp2_with fail
            generalize ((wo.drewN nq).setCell ⟨w.heap.size + 1, 0, none⟩ (.int .i64 0)).setCell ⟨w.heap.size + 1, 1, none⟩ (.slice none 0 0) = Wf at hfin hbf ⊢
            refine bodyPost_ret (v := .tuple #[.agg #[.int .i64 0, .slice none 0 0], .bool false]) ?_ rfl ?_
            · simp [results, Tryz.results45, go_sem, hfin]
            exact ⟨none, 0, rfl, OwnI.nil_ _ _, hbf⟩
        · obtain rfl : k = b.length := by omega
          have HG := Lib.hid (Hyes.out hall.out)
          have HQ := Lib.hid (HT.out _ hall.out)
          have hbr2 := hbr.up hb
          have f0 := hbr2.frozen 0
          have f1 := hbr2.frozen 1
          have hyr := hbr2.two
          have hlr := hbr2.lt
          have hyb := hb5.two
          have hw2 := Up.then_ hU1 hb
          have hfin := ((hbr2.set_ 0 (.int .i64 n)).set_ 1 (.slice (some ⟨g, 0, none⟩) n d)).two
          have hof := (hown.other_store (i := 0) hbr2 (by decide) (.int .i64 n)).other_store (i := 1) (hbr2.set_ 0 (.int .i64 n)) (by decide) (.slice (some ⟨g, 0, none⟩) n d)
          have hbf := (hw2.setCell (p := ⟨w.heap.size + 1, 0, none⟩) (by simp) (.int .i64 n)).setCell (p := ⟨w.heap.size + 1, 1, none⟩) (by simp) (.slice (some ⟨g, 0, none⟩) n d)
          go_wp2
          generalize (wo.setCell ⟨w.heap.size + 1, 0, none⟩ (.int .i64 n)).setCell ⟨w.heap.size + 1, 1, none⟩ (.slice (some ⟨g, 0, none⟩) n d) = Wf at hfin hof hbf ⊢
          refine bodyPost_ret (v := .tuple #[.agg #[.int .i64 n, .slice (some ⟨g, 0, none⟩) n d], .bool true]) ?_ rfl ?_
          · simp [results, Tryz.results45, go_sem, hfin]
          rw [HG.out.1, HG.out.2.1, HG.out.2.2]
          exact givesGB_of HQ.out.len hof hU1.size hbf
end Go.Proofs.YthncdjcmlpiebaaGreatDoor
namespace Go.Proofs.YthncdjcmlpiebaaGreatDoor
open Go.RowKit
def sameGraph (N M : Int) (xs ys : List Int) : Bool := decide (N = M) && decide (xs = ys)
set_option maxRecDepth 100000 in
theorem sameGraph_no {N M : Int} {xs ys : List Int} (h : N ≠ M) : sameGraph N M xs ys = false := by rw [sameGraph, decide_eq_false h]; rfl
set_option maxRecDepth 100000 in
theorem sameGraph_yes {N : Int} {xs ys : List Int} : sameGraph N N xs ys = decide (xs = ys) := by rw [sameGraph, decide_eq_true rfl]; rfl
set_option maxRecDepth 100000 in
set_option maxHeartbeats 1000000 in
theorem specEqualGraphs_any (N M : Int) (A B : Option Addr) (n m ca cb : Nat) (xs ys : List Int) (w : World) (hA : RI w A n xs) (hB : RI w B m ys) (hn : n ≤ 9223372036854775807) :
    Calls Tryz.prog 13 #[.agg #[.int .i64 N, .slice A n ca], .agg #[.int .i64 M, .slice B m cb]] w fun e w' => e = .returned (.bool (sameGraph N M xs ys)) ∧ Below w.heap.size w w' := by
  have HX := Lib.hid hA.1
  have HY := Lib.hid hB.1
  by_cases hNM : N = M
  · subst hNM
    have HS := Lib.hid (sameGraph_yes (N := N) (xs := xs) (ys := ys))
    by_cases hnm : n = m
    · subst hnm
      have hb0 := (Blk.new w 29 #[.int .i64 N, .slice A n ca]).alloc (.cells #[.int .i64 N, .slice B n cb] 29)
      have hb1 := Blk.new_at (w := w.alloc (.cells #[.int .i64 N, .slice A n ca] 29)) (t := 29) (cs := #[.int .i64 N, .slice B n cb]) (g := w.heap.size + 1) (by simp)
      go_enter Tryz.func13, Tryz.ntmps13
      go_wp2_with fail
      go_loopw [5] (fun i wr => ∃ k : Nat, k ≤ n ∧ i = .int .i64 k ∧ Blk wr w.heap.size 29 #[.int .i64 N, .slice A n ca] ∧ Blk wr (w.heap.size + 1) 29 #[.int .i64 N, .slice B n cb] ∧ Below w.heap.size w wr ∧ Hid (∀ j, j < k → xs.getD j 0 = ys.getD j 0)) (fun i _ => n - (intOf i).toNat)
      case atStart => exact ⟨0, Nat.zero_le _, rfl, hb0, hb1, by go_grown, fun j h => absurd h (by omega)⟩
      case round =>
        clear hb0 hb1
        obtain ⟨k, hk, rfl, hb0, hb1, hb, hall⟩ := hrel
        have hy0 := hb0.two
        have hy1 := hb1.two
        by_cases hlt : k < n
        · obtain ⟨a, rfl, ha, hca⟩ := (hA.up hb).at_ hlt
          obtain ⟨b, rfl, hb', hcb⟩ := (hB.up hb).at_ hlt
          go_wp2_with fail
          go_quiet (fail)
          go_wp2
          · go_ret
            have h : (xs[k]?.getD 0 != ys[k]?.getD 0) = true := by assumption
            exact ⟨ret_bool (HS.out.trans (list_ne_at (k := k) (by simpa using h))).symm, below_drewN hb _⟩
          · have h : (xs[k]?.getD 0 != ys[k]?.getD 0) = false := by assumption
            go_roundw
            case rel => exact ⟨k + 1, by omega, by go_num, hb0.drewN _, hb1.drewN _, below_drewN hb _, fun j hj => by
              rcases Nat.lt_succ_iff_lt_or_eq.1 hj with h' | rfl
              · exact hall.out j h'
              · simpa using h⟩
            case measure => simp [intOf]; omega
        · obtain rfl : k = n := by omega
          go_wp2
          go_ret
          exact ⟨ret_bool (HS.out.trans (list_eq_of HX.out HY.out hall.out)).symm, hb⟩
    · have e : ((n : Int) != m) = true := by simp; omega
      go_enter Tryz.func13, Tryz.ntmps13
      go_wp2
      go_ret
      exact ⟨ret_bool (HS.out.trans (list_ne_len HX.out HY.out hnm)).symm, by go_grown⟩
  · have HS := Lib.hid (sameGraph_no (xs := xs) (ys := ys) hNM)
    have hne : (N != M) = true := by rw [bne_iff_ne]; exact hNM
    clear hNM
    go_enter Tryz.func13, Tryz.ntmps13
    go_wp2
    go_ret
    exact ⟨ret_bool HS.out.symm, by go_grown⟩
end Go.Proofs.YthncdjcmlpiebaaGreatDoor
namespace Go.Proofs.YthncdjcmlpiebaaGreatDoor
/-- A list of bytes as a string of the model. -/
def sb (l : List UInt8) : ByteArray := ⟨l.toArray⟩
theorem sb_add (a b : List UInt8) : sb a ++ sb b = sb (a ++ b) := by
  unfold sb
  rw [ByteArray.mk_append_mk]
theorem sb_size (a : List UInt8) : (sb a).size = a.length := by show a.toArray.size = _; simp
/-- A number below 100. -/
def dec (i : Nat) : List UInt8 := Lib.decDigits i
theorem dec_one {i : Nat} (h : i < 10) : dec i = [UInt8.ofNat (48 + i)] := by unfold dec; rw [Lib.decDigits, dif_pos h]
theorem dec_two {i : Nat} (h : 10 ≤ i) (h1 : i < 100) : dec i = [UInt8.ofNat (48 + i / 10), UInt8.ofNat (48 + i % 10)] := by
  have e : dec i = dec (i / 10) ++ [UInt8.ofNat (48 + i % 10)] := by
    show Lib.decDigits i = Lib.decDigits (i / 10) ++ _
    rw [Lib.decDigits, dif_neg (by omega)]
  rw [e, dec_one (by omega)]; rfl
theorem dec_len {i : Nat} (h : i < 100) : 1 ≤ (dec i).length ∧ (dec i).length ≤ 2 := by
  rcases Nat.lt_or_ge i 10 with h1 | h1
  · rw [dec_one h1]; simp
  · rw [dec_two h1 h]; simp
/-- The members of a set, one behind the other. -/
def decs (l : List Nat) : List UInt8 := l.flatMap dec
theorem decs_snoc (l : List Nat) (v : Nat) : decs (l ++ [v]) = decs l ++ dec v := by simp [decs]
theorem decs_len {l : List Nat} (h : ∀ v ∈ l, v < 100) : l.length ≤ (decs l).length ∧ (decs l).length ≤ 2 * l.length := by
  induction l with
  | nil => simp [decs]
  | cons a l ih =>
    have h1 := dec_len (h a (List.mem_cons_self ..))
    have h2 := ih fun v hv => h v (List.mem_cons_of_mem _ hv)
    have e : decs (a :: l) = dec a ++ decs l := by simp [decs]
    rw [e, List.length_append, List.length_cons]
    omega
def fset (s : Nat) : List UInt8 := if s = 0 then [45] else decs (listOf s)
theorem listOf_zero : listOf 0 = [] := by decide
theorem listOf_none {s : Nat} (h : s < 128) (e : listOf s = []) : s = 0 := by
  refine Nat.eq_of_testBit_eq fun i => ?_
  rw [Nat.zero_testBit, ← Bool.not_eq_true]
  intro hi
  have h7 : i < 7 := bit_lt (show s < 2 ^ 7 by omega) hi
  have := mem_listOf.2 ⟨h7, hi⟩
  rw [e] at this; cases this
theorem fset_len (s : Nat) : (fset s).length ≤ 14 := by
  unfold fset
  split
  · simp
  · have h1 := (decs_len (l := listOf s) fun v hv => by have := mem_listOf.1 hv; omega).2
    have h2 := listOf_len s
    omega
/-- A tree's first k bags. -/
def ftK (B P : List Int) : Nat → List UInt8
  | 0 => []
  | k + 1 => (if k = 0 then ftK B P k else ftK B P k ++ [32] ++ dec (P.getD k 0).toNat ++ [62]) ++ fset (B.getD k 0).toNat
def ftree (B P : List Int) : List UInt8 := if isTree B P then ftK B P B.length else []
theorem ftree_no {B P : List Int} (h : isTree B P = false) : ftree B P = [] := by rw [ftree, h]; rfl
theorem ftree_yes {B P : List Int} (h : isTree B P = true) : ftree B P = ftK B P B.length := by rw [ftree, if_pos h]
theorem ftK_len {B P : List Int} (h : ∀ j, (P.getD j 0).toNat < 100) : ∀ k, (ftK B P k).length ≤ 20 * k
  | 0 => by simp [ftK]
  | k + 1 => by
    have h1 := ftK_len (B := B) h k
    have h2 := fset_len (B.getD k 0).toNat
    have h3 := (dec_len (h k)).2
    rw [ftK]
    split <;> simp only [List.length_append, List.length_cons, List.length_nil] <;> omega
end Go.Proofs.YthncdjcmlpiebaaGreatDoor
namespace Go.Proofs
open Go.Shelf
def Tryz.lays171_ren : Go.Shelf.Ren := ⟨fun | 171 => 114 | 243 => 140 | 246 => 152 | 283 => 170 | 284 => 171 | 285 => 172 | 286 => 173 | 129 => 169 | 317 => 181 | 318 => 182 | 319 => 183 | 320 => 184 | 337 => 187 | 338 => 188 | n => n, fun | 3 => 3 | 9 => 9 | 2 => 2 | 4 => 4 | 171 => 143 | 0 => 0 | 53 => 142 | 37 => 22 | 5 => 5 | 173 => 145 | 212 => 154 | 51 => 140 | 20 => 20 | 213 => 155 | 46 => 120 | 232 => 159 | 233 => 160 | n => n, fun | 17 => 1 | 18 => 2 | 19 => 3 | n => n⟩
set_option maxRecDepth 100000 in
theorem Tryz.lays171 : Go.Proofs.Lays.n171 Tryz.prog Tryz.lays171_ren := {
  mixed := by kernel_rfl
  f129 := Tryz.func169.trans (congrArg some (by kernel_rfl))
  f171 := Tryz.func114.trans (congrArg some (by kernel_rfl))
  f243 := Tryz.func140.trans (congrArg some (by kernel_rfl))
  f246 := Tryz.func152.trans (congrArg some (by kernel_rfl))
  f283 := Tryz.func170.trans (congrArg some (by kernel_rfl))
  f284 := Tryz.func171.trans (congrArg some (by kernel_rfl))
  f285 := Tryz.func172.trans (congrArg some (by kernel_rfl))
  f286 := Tryz.func173.trans (congrArg some (by kernel_rfl))
  f317 := Tryz.func181.trans (congrArg some (by kernel_rfl))
  f318 := Tryz.func182.trans (congrArg some (by kernel_rfl))
  f319 := Tryz.func183.trans (congrArg some (by kernel_rfl))
  f320 := Tryz.func184.trans (congrArg some (by kernel_rfl))
  f337 := Tryz.func187.trans (congrArg some (by kernel_rfl))
  f338 := Tryz.func188.trans (congrArg some (by kernel_rfl))
  t0 := Tryz.underlying0
  a0 := Tryz.isAgg0
  z0 := Tryz.sizeOf0
  v0 := Tryz.zeroValue0
  t2 := Tryz.underlying2
  a2 := Tryz.isAgg2
  z2 := Tryz.sizeOf2
  v2 := Tryz.zeroValue2
  t3 := Tryz.underlying3
  a3 := Tryz.isAgg3
  z3 := Tryz.sizeOf3
  v3 := Tryz.zeroValue3
  t4 := Tryz.underlying4
  a4 := Tryz.isAgg4
  z4 := Tryz.sizeOf4
  v4 := Tryz.zeroValue4
  t5 := Tryz.underlying5
  a5 := Tryz.isAgg5
  z5 := Tryz.sizeOf5
  v5 := Tryz.zeroValue5
  t9 := Tryz.underlying9
  a9 := Tryz.isAgg9
  z9 := Tryz.sizeOf9
  v9 := Tryz.zeroValue9
  t20 := Tryz.underlying20
  a20 := Tryz.isAgg20
  z20 := Tryz.sizeOf20
  v20 := Tryz.zeroValue20
  t37 := Tryz.underlying22
  a37 := Tryz.isAgg22
  z37 := Tryz.sizeOf22
  v37 := Tryz.zeroValue22
  t46 := Tryz.underlying120
  a46 := Tryz.isAgg120
  z46 := Tryz.sizeOf120
  v46 := Tryz.zeroValue120
  t51 := Tryz.underlying140
  a51 := Tryz.isAgg140
  z51 := Tryz.sizeOf140
  v51 := Tryz.zeroValue140
  t53 := Tryz.underlying142
  a53 := Tryz.isAgg142
  z53 := Tryz.sizeOf142
  v53 := Tryz.zeroValue142
  t171 := Tryz.underlying143
  a171 := Tryz.isAgg143
  z171 := Tryz.sizeOf143
  v171 := Tryz.zeroValue143
  t173 := Tryz.underlying145
  a173 := Tryz.isAgg145
  z173 := Tryz.sizeOf145
  v173 := Tryz.zeroValue145
  t212 := Tryz.underlying154
  a212 := Tryz.isAgg154
  z212 := Tryz.sizeOf154
  v212 := Tryz.zeroValue154
  t213 := Tryz.underlying155
  a213 := Tryz.isAgg155
  z213 := Tryz.sizeOf155
  t232 := Tryz.underlying159
  a232 := Tryz.isAgg159
  z232 := Tryz.sizeOf159
  v232 := Tryz.zeroValue159
  t233 := Tryz.underlying160
  a233 := Tryz.isAgg160
  z233 := Tryz.sizeOf160
  v233 := Tryz.zeroValue160
  g17 := by kernel_rfl
  g18 := by kernel_rfl
  g19 := by kernel_rfl }
open Go.RowKit Go.Sort Go.Lib in
set_option maxRecDepth 100000 in
/-- THE ROAD WITHOUT THE TABLE: 0 <= i < 100: NO PREMISE ON THE WORLD, AND THE WORLD IS AS IT WAS: a row that keeps its argument in that range need list no table ('laid = []'). (LAID: no walk: one application.) -/
theorem Tryz.strconv_Itoa_small (i : Nat) (hi : i < 100) (w : World) :
    Calls Tryz.prog 114 #[.int .i64 i] w fun e w' => e = .returned (.string ⟨(Lib.decDigits i).toArray⟩) ∧ w' = w := Any.strconv_Itoa_small Tryz.lays171 i hi w
end Go.Proofs
