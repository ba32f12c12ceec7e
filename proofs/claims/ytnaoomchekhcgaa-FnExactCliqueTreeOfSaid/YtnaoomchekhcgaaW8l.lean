/- Walks of chapter 8: CliqueTreeOf, the reference's. -/
import Derived.Test.YtnaoomchekhcgaaW8k
import Derived.Test.YtnaoomchekhcgaaCalm
namespace Go.Proofs.Ytnaoomchekhcgaa
open Go.RowKit
theorem wpList_pushA {ops : Array Oper} {rest : List Oper} {o : Oper} {a : Act} {Q : Exit → Act → World → Prop} {w : World} (hgd : o.guard = none) (s x : Operand)
    (ho : o.op = .call { callee := .builtin .append, args := #[s, x], argTypes := #[22, 22] }) {W : World} {ra rb : Option Nat} {base : Nat} {e2 : TypeId} {A B : Option Addr} {n c m d : Nat} {xs ys : List Value} (y : Int)
    (hs : a.eval s = .slice A n c) (h : Two W ra rb base 3 e2 A n c xs B m d ys w) (ad : Addr) (hx : a.eval x = .slice (some ad) 1 1) (hc : w.cell? ad = some (.int .i64 y)) (hn : n ≤ 1048576) (hbase : base ≤ W.heap.size)
    (hK : ∀ A' c' w', Two W ra rb base 3 e2 A' (n + 1) c' (xs ++ [.int .i64 y]) B m d ys w' → wpList Try.prog ops Q rest (a.put o.dst (.slice A' (n + 1) c')) w') : wpList Try.prog ops Q (o :: rest) a w :=
  wpList_plain hgd fun K hK' => by
    have hw : Region.wanted o (yielded ops a.tmps) = true := by simp [Region.wanted, hgd]
    have := stepA_int (ops := ops) (K := K) (Q := Q) (E := False) hgd s x ho y hs h ad hx hc hn hbase fun A' c' w' h1 _ => hK' _ _ (hK A' c' w' h1)
    rwa [if_pos hw] at this
theorem wpList_pushB {ops : Array Oper} {rest : List Oper} {o : Oper} {a : Act} {Q : Exit → Act → World → Prop} {w : World} (hgd : o.guard = none) (s x : Operand)
    (ho : o.op = .call { callee := .builtin .append, args := #[s, x], argTypes := #[22, 22] }) {W : World} {ra rb : Option Nat} {base : Nat} {e1 : TypeId} {A B : Option Addr} {n c m d : Nat} {xs ys : List Value} (y : Int)
    (hs : a.eval s = .slice B m d) (h : Two W ra rb base e1 3 A n c xs B m d ys w) (ad : Addr) (hx : a.eval x = .slice (some ad) 1 1) (hc : w.cell? ad = some (.int .i64 y)) (hn : m ≤ 1048576) (hbase : base ≤ W.heap.size)
    (hK : ∀ B' d' w', Two W ra rb base e1 3 A n c xs B' (m + 1) d' (ys ++ [.int .i64 y]) w' → wpList Try.prog ops Q rest (a.put o.dst (.slice B' (m + 1) d')) w') : wpList Try.prog ops Q (o :: rest) a w :=
  wpList_plain hgd fun K hK' => by
    have hw : Region.wanted o (yielded ops a.tmps) = true := by simp [Region.wanted, hgd]
    have := stepB_int (ops := ops) (K := K) (Q := Q) (E := False) hgd s x ho y hs h ad hx hc hn hbase fun B' d' w' h1 _ => hK' _ _ (hK B' d' w' h1)
    rwa [if_pos hw] at this
theorem specCount_is {s x : Nat} {w : World} (hs : s < 128) (h : card s = x) : Calls Try.prog 49 #[.int .i64 s] w fun e w' => e = .returned (.int .i64 (x : Nat)) ∧ Below w.heap.size w w' := by
  subst h; exact specCountSet_any s w hs
theorem l8Has_up {A : Option Addr} {n c : Nat} {v : Int} {xs : List Int} {w : World} {b : Bool} (hA : RI w A n xs) (hn : n ≤ 9223372036854775807) (h : decide (v ∈ xs) = b) :
    Calls Try.prog 50 #[.slice A n c, .int .i64 v] w fun e w' => e = .returned (.bool b) ∧ Below w.heap.size w w' :=
  (l8Has_is hA hn h).mono fun _ _ k => ⟨k.1, k.2 ▸ Below.refl _ _⟩
set_option maxRecDepth 100000 in
set_option maxHeartbeats 8000000 in
theorem specCliqueTreeOf_any (N : Int) (A : Option Addr) (n c : Nat) (X : List Int) (w : World) (hX : RI w A n X) (hn : n ≤ 9223372036854775807) :
    Calls Try.prog 18 #[.agg #[.int .i64 N, .slice A n c]] w (GivesTB (ctOf N X).1 (ctOf N X).2.1 (ctOf N X).2.2 w) := by
  have hG := (Blk.new w 27 #[.int .i64 N, .slice A n c]).alloc (.cells #[.slice none 0 0, .slice none 0 0] 33)
  have hM : Blk ((w.alloc (.cells #[.int .i64 N, .slice A n c] 27)).alloc (.cells #[.slice none 0 0, .slice none 0 0] 33)) (w.heap.size + 1) 33 #[.slice none 0 0, .slice none 0 0] := Blk.new_at (by simp)
  have hU0 : Up w ((w.alloc (.cells #[.int .i64 N, .slice A n c] 27)).alloc (.cells #[.slice none 0 0, .slice none 0 0] 33)) := by go_grown
  obtain ⟨b, hb⟩ : ∃ b, b = (elimOf N X).isSome := ⟨_, rfl⟩
  have HC := Lib.hid hb.symm
  clear hb
  cases b
  · rw [ctOf_no HC.out]
    go_enter Try.func18, Try.ntmps18
    go_wp2_with fail
    refine (specIsChordal_is (hX.up hU0) hn HC.out).mono ?_
    rintro e w1 ⟨rfl, hb1⟩
    have hU1 : Up w w1 := Up.then_ hU0 hb1
    replace hM := hM.up hb1
    have f0 := hM.frozen 0
    have f1 := hM.frozen 1
    have hy := hM.two
    have hl := hM.lt
    have hfin := ((hM.set_ 0 (.slice none 0 0)).set_ 1 (.slice none 0 0)).two
    have hbf := (hU1.setCell (p := ⟨w.heap.size + 1, 0, none⟩) (by simp) (.slice none 0 0)).setCell (p := ⟨w.heap.size + 1, 1, none⟩) (by simp) (.slice none 0 0)
    clear hG
    go_wp2
    generalize (w1.setCell ⟨w.heap.size + 1, 0, none⟩ (.slice none 0 0)).setCell ⟨w.heap.size + 1, 1, none⟩ (.slice none 0 0) = Wf at hfin hbf ⊢
    refine bodyPost_ret (v := .tuple #[.agg #[.slice none 0 0, .slice none 0 0], .bool false]) ?_ rfl ?_
    · simp [results, Try.results18, go_sem, hfin]
    exact tB_none hbf
  · have hok := cliques_ok HC.out
    have hnd := cliques_nodup HC.out
    rw [ctOf_yes HC.out]
    obtain ⟨L, hL⟩ : ∃ L, L = maxCliquesOf N X := ⟨_, rfl⟩
    rw [← hL] at hok hnd ⊢
    have HL := Lib.hid hL
    clear hL
    obtain ⟨hL7, hL0, hL128⟩ := hok
    have HS := Lib.hid (ctB_spec hnd (b := 2 ^ 7) (by decide) hL7)
    have HB7 := Lib.hid (nb_lt_all (Nat.two_pow_pos 7) hL7)
    clear hnd hL7
    go_enter Try.func18, Try.ntmps18
    go_wp2_with fail
    refine (specIsChordal_is (hX.up hU0) hn HC.out).mono ?_
    rintro e w1 ⟨rfl, hb1⟩
    have hU1 : Up w w1 := Up.then_ hU0 hb1
    replace hM := hM.up hb1
    replace hG := hG.up hb1
    have hyG := hG.two
    have hlG := hG.lt
    clear hU0
    go_wp2_with fail
    refine (specCliques_out (hX.up hU1) hn).mono ?_
    rintro e w2 ⟨AC, cC, rfl, hownC, hb2⟩
    rw [← HL.out] at hownC ⊢
    have hU2 : Up w w2 := Up.then_ hU1 hb2
    replace hM := hM.up hb2
    have hlM : w.heap.size + 1 < w2.heap.size := hM.lt
    obtain ⟨gC, rfl⟩ := hownC.form hL0
    have hriC := hownC.ri
    obtain ⟨aC, e, hc0⟩ := hriC.ints_at hL0
    injection e with e
    subst e
    have hc0' : w2.cell? ⟨gC, 0, none⟩ = some (.int .i64 (nb L 0)) := by rw [add_0_] at hc0; exact hc0
    obtain ⟨x0, hx0⟩ : ∃ x0, x0 = nb L 0 := ⟨_, rfl⟩
    rw [← hx0] at hc0' hc0
    obtain ⟨w3, hw3⟩ : ∃ w3, w3 = ((w2.alloc (.cells #[.int .i64 (x0 : Int)] 3)).alloc (.cells #[.int .i64 (-1)] 3)).alloc (.cells #[.slice (some ⟨w2.heap.size, 0, none⟩) 1 1, .slice (some ⟨w2.heap.size + 1, 0, none⟩) 1 1] 33) := ⟨_, rfl⟩
    have hrA : Blk w3 w2.heap.size 3 #[.int .i64 (x0 : Int)] := by rw [hw3]; exact ((Blk.new w2 _ _).alloc _).alloc _
    have hrB : Blk w3 (w2.heap.size + 1) 3 #[.int .i64 (-1)] := by rw [hw3]; exact (Blk.new_at (by simp)).alloc _
    have hbt : Blk w3 (w2.heap.size + 1 + 1) 33 #[.slice (some ⟨w2.heap.size, 0, none⟩) 1 1, .slice (some ⟨w2.heap.size + 1, 0, none⟩) 1 1] := by rw [hw3]; exact Blk.new_at (by simp)
    have hU3 : Up w2 w3 := by rw [hw3]; go_grown
    have hoA : OwnI w3 w2.heap.size (some ⟨w2.heap.size, 0, none⟩) 1 1 (ints (ctB L 0).1) := by
      have := hrA.own (base := w2.heap.size) (n := 1) (Nat.le_refl _) rfl (by decide)
      unfold OwnI; rw [show (ctB L 0).1 = [x0] by rw [hx0]; rfl]; exact this
    have hoB : OwnI w3 w2.heap.size (some ⟨w2.heap.size + 1, 0, none⟩) 1 1 (ctB L 0).2 := hrB.own (base := w2.heap.size) (n := 1) (by omega) rfl (by decide)
    obtain ⟨bt, hbt'⟩ : ∃ bt, bt = w2.heap.size + 1 + 1 := ⟨_, rfl⟩
    have hbtge : w2.heap.size ≤ bt := by omega
    have hne0 : ∀ j, (Value.slice (some ⟨w2.heap.size, 0, none⟩) 1 1).ownBlock = some j → (Value.slice (some ⟨w2.heap.size + 1, 0, none⟩) 1 1).ownBlock ≠ some j := by
      intro j h1 h2
      simp [Value.ownBlock] at h1 h2
      omega
    clear hx0 hrA hrB hyG hlG hG
    go_wp2_with fail
    rw [← hw3, ← hbt']
    rw [← hbt'] at hbt
    clear hw3 hbt' hc0 hc0'
    go_loopg [6] (L.length - 1) (fun g _ wr => ∃ (m j : Nat) (A1 B1 : Option Addr) (c1 d1 : Nat), Hid (j = m + 1) ∧ j + g = L.length ∧ OwnI wr w2.heap.size A1 j c1 (ints (ctB L m).1) ∧ OwnI wr w2.heap.size B1 j d1 (ctB L m).2 ∧ (∀ i, (Value.slice A1 j c1).ownBlock = some i → (Value.slice B1 j d1).ownBlock ≠ some i) ∧ Blk wr bt 33 #[.slice A1 j c1, .slice B1 j d1] ∧ Below w2.heap.size w2 wr)
    case atStart => exact ⟨0, 1, _, _, 1, 1, rfl, by omega, hoA, hoB, hne0, hbt, hU3⟩
    case round =>
      clear hoA hoB hne0 hbt hU3
      obtain ⟨m, j, A1, B1, c1, d1, hjm, hjg, hoA, hoB, hne, hbt, hb⟩ := hrel
      obtain ⟨wo, rfl⟩ : ∃ wo : World, wo = wr := ⟨_, rfl⟩
      have hbc0 := hbt.two.1
      have hbc1 := hbt.two.2
      have hbl := hbt.lt
      have hj1 : 1 ≤ j := by have := hjm.out; omega
      by_cases hjt : j < L.length
      · have hsp := HS.out m (by have := hjm.out; omega)
        obtain ⟨hl1, hl2, hbg7, s, hs⟩ := hsp
        have hs' := hs (by have := hjm.out; omega)
        obtain ⟨bg, hbg⟩ : ∃ bg, bg = (ctB L m).1 := ⟨_, rfl⟩
        obtain ⟨pr, hpr⟩ : ∃ pr, pr = (ctB L m).2 := ⟨_, rfl⟩
        have HSt := Lib.hid (ctB_step hs')
        have HMem := Lib.hid (allB_mem _ (Nat.le_refl _) s hs')
        rw [← hbg] at hs' hl1 hbg7 hoA HSt HMem
        rw [← hpr] at hoB hl2 HSt
        rw [show bg.length = j by have := hjm.out; omega] at hs' HMem
        have Hs := Lib.hid hs'
        have Hl1 := Lib.hid (show bg.length = j by have := hjm.out; omega)
        have HG7 := Lib.hid (nb_lt_all (Nat.two_pow_pos 7) hbg7)
        clear hs hs' hbg hpr hl1 hl2 hbg7
        obtain ⟨gA, rfl⟩ := hoA.form hj1
        obtain ⟨gB, rfl⟩ := hoB.form hj1
        go_wp2_with fail
        go_loopw [6, 7, 8, 9] (fun z1 z2 z3 i wr => ∃ i' : Nat, i' ≤ j ∧ i = .int .i64 (i' : Nat) ∧ z1 = .int .i64 (cliqB (-1) (allB L bg i')) ∧ z2 = .int .i64 (parB (-1) (allB L bg i')) ∧ z3 = .int .i64 (mostB (allB L bg i')) ∧ Up wo wr) (fun _ _ _ i _ => j - (intOf i).toNat)
        case atStart => exact ⟨0, Nat.zero_le _, rfl, rfl, rfl, rfl, Up.refl _⟩
        case round =>
          clear hbc0 hbc1 hbl
          obtain ⟨i, hi, rfl, rfl, rfl, rfl, hbi⟩ := hrel
          obtain ⟨wi, rfl⟩ : ∃ wi : World, wi = wr := ⟨_, rfl⟩
          have hbti := hbt.up hbi
          have hbi0 := hbti.two.1
          have hbi1 := hbti.two.2
          have hbil := hbti.lt
          by_cases hit : i < j
          · have hoAi := hoA.up hbi
            have hRo := Lib.hid (show rowB L bg i (allB L bg i) L.length = allB L bg (i + 1) from rfl)
            have hy7 := HG7.out i
            obtain ⟨st, hst⟩ : ∃ st, st = allB L bg i := ⟨_, rfl⟩
            rw [← hst] at hRo ⊢
            clear hst
            obtain ⟨y, hy⟩ : ∃ y, y = nb bg i := ⟨_, rfl⟩
            rw [← hy] at hy7
            have HY := Lib.hid hy
            clear hy
            go_wp2_with fail
            go_loopw [6, 7, 8, 10] (fun z1 z2 z3 k wr => ∃ k' : Nat, k' ≤ L.length ∧ k = .int .i64 (k' : Nat) ∧ z1 = .int .i64 (cliqB (-1) (rowB L bg i st k')) ∧ z2 = .int .i64 (parB (-1) (rowB L bg i st k')) ∧ z3 = .int .i64 (mostB (rowB L bg i st k')) ∧ Up wi wr) (fun _ _ _ k _ => L.length - (intOf k).toNat)
            case atStart => exact ⟨0, Nat.zero_le _, rfl, rfl, rfl, rfl, Up.refl _⟩
            case round =>
              clear hbi0 hbi1 hbil
              obtain ⟨k, hk, rfl, rfl, rfl, rfl, hbk⟩ := hrel
              obtain ⟨wk, rfl⟩ : ∃ wk : World, wk = wr := ⟨_, rfl⟩
              by_cases hkt : k < L.length
              · have hbk2 := Up.then_ hbi hbk
                have hriCk := hriC.up (hb.trans (hbk2.mono hb.size))
                obtain ⟨ak, e, hck⟩ := hriCk.ints_at hkt
                injection e with e
                subst e
                rw [add_0_] at hck
                have hx7 := HB7.out k
                have hoAk := hoAi.up hbk
                obtain ⟨ai, e, hcb⟩ := hoAk.ri.ints_at hit
                injection e with e
                subst e
                rw [add_0_, ← HY.out] at hcb
                have hbtk := hbti.up hbk
                have hbtc := hbtk.two.1
                have hbtl := hbtk.lt
                have hlA : gA < wk.heap.size := (hoAk.block gA rfl).2
                have hlC : gC < wk.heap.size := World.block_lt_of_cell? wk _ hck
                have HPI := Lib.hid (show decide (nb L k ∈ bg) = true → rowB L bg i st (k + 1) = rowB L bg i st k from fun h => pickB_in h)
                have HPF := Lib.hid (show ¬ mostB (rowB L bg i st k) < (comm L bg i k : Nat) → rowB L bg i st (k + 1) = rowB L bg i st k from fun h => pickB_few h)
                have HPN := Lib.hid (show decide (nb L k ∈ bg) = false → mostB (rowB L bg i st k) < (comm L bg i k : Nat) → rowB L bg i st (k + 1) = some (nb L k, i, comm L bg i k) from fun h h2 => pickB_new h h2)
                have HCo := Lib.hid (show comm L bg i k = card (nb bg i &&& nb L k) by rw [Nat.and_comm]; rfl)
                rw [← HY.out] at HCo
                obtain ⟨cn, hcn⟩ : ∃ cn, cn = comm L bg i k := ⟨_, rfl⟩
                rw [← hcn] at HPF HPN HCo
                obtain ⟨mo, hmo⟩ : ∃ mo, mo = mostB (rowB L bg i st k) := ⟨_, rfl⟩
                obtain ⟨x, hx⟩ : ∃ x, x = nb L k := ⟨_, rfl⟩
                rw [← hx] at hx7 hck HPI HPN HCo
                rw [← hmo] at HPF HPN ⊢
                have Hmo := Lib.hid hmo
                clear hcn hx hmo
                have hand := i64_and7 hy7 hx7
                have hz7 : y &&& x < 128 := Nat.lt_of_le_of_lt Nat.and_le_left hy7
                obtain ⟨z, hz⟩ : ∃ z, z = y &&& x := ⟨_, rfl⟩
                rw [← hz] at hand hz7 HCo
                clear hz
                have hj9 : j ≤ 9223372036854775807 := by omega
                obtain ⟨bh, hbh⟩ : ∃ bh, bh = decide (x ∈ bg) := ⟨_, rfl⟩
                have HH := Lib.hid (show decide ((x : Int) ∈ ints bg) = bh by rw [dec_mem]; exact hbh.symm)
                have HH2 := Lib.hid hbh.symm
                clear hbh
                go_wp2
                go_wp2
                have hV0 : Up wk wk.drew := (Up.refl _).drew
                refine wp_region_calm (S := (fun w' => Up wk w' ∧ (∀ b o, b < wk.heap.size → w'.cell? ⟨b, o, none⟩ = wk.cell? ⟨b, o, none⟩) ∧ w'.cell? (⟨bt, 0, none⟩) = some (.slice (some ⟨gA, 0, none⟩) j c1) ∧ w'.cell? (⟨gA, i, none⟩) = some (.int .i64 y) ∧ w'.cell? (⟨gC, k, none⟩) = some (.int .i64 x))) (by kernel_rfl) (by kernel_rfl) (by exact ⟨hV0, fun _ _ hb => hV0.cell hb, (hV0.cell (by first | assumption | (rw [block_of_add]; assumption))).trans (by assumption), (hV0.cell (by first | assumption | (rw [block_of_add]; assumption))).trans (by assumption), (hV0.cell (by first | assumption | (rw [block_of_add]; assumption))).trans (by assumption)⟩) ?_
                repeat (first | (refine CalmSeq.cons undef (Calm.off (by rfl)) ?_; (try simp only [Act.put, List.setIfInBounds_toArray, List.set_cons_zero, List.set_cons_succ])) | (refine CalmSeq.cons ?_ (Calm.val (by rfl) ?_) ?_; rotate_left; (intro wC hSw; (try dsimp only at hSw); go_simp; done); (try simp only [Act.put, List.setIfInBounds_toArray, List.set_cons_zero, List.set_cons_succ])) | (refine CalmSeq.cons ?_ (Calm.val (by rfl) ?_) ?_; rotate_left; (intro wC hSw; (try dsimp only at hSw); go_simp; with_reducible rfl); (try simp only [Act.put, List.setIfInBounds_toArray, List.set_cons_zero, List.set_cons_succ])) | ((refine CalmSeq.cons ?_ (Calm.call (f := ?_) (args := ?_) (by rfl) ?_ (fun wC hSw => ?_)) ?_; rotate_left 3; (intro wC; go_simp; (refine ⟨?_, ?_⟩ <;> with_reducible rfl)); (go_at_call 49; (with_reducible refine (specCount_is hz7 HCo.out.symm).mono ?_); rintro e wD ⟨rfl, hbD⟩; apply And.intro; (with_reducible rfl); (have hUD := Up.then_ hSw.1 hbD; exact ⟨hUD, fun _ _ hb => hUD.cell hb, (hUD.cell (by first | assumption | (rw [block_of_add]; assumption))).trans (by assumption), (hUD.cell (by first | assumption | (rw [block_of_add]; assumption))).trans (by assumption), (hUD.cell (by first | assumption | (rw [block_of_add]; assumption))).trans (by assumption)⟩))); (try simp only [Act.put, List.setIfInBounds_toArray, List.set_cons_zero, List.set_cons_succ])))
                intro w5 hS5
                have hU5 : Up wk w5 := hS5.1
                clear hS5 hV0
                have hoA5 := hoAk.up hU5
                have hbt5 := hbtk.up hU5
                replace hck := (hU5.cell (p := ⟨gC, k, none⟩) hlC).trans hck
                replace hbtc := hbt5.two.1
                replace hbtl := hbt5.lt
                replace hlC := Nat.lt_of_lt_of_le hlC hU5.size
                clear hcb hlA hand
                cases bh
                · by_cases hlt : mo < (cn : Int)
                  · have d1 : decide (mo < (cn : Int)) = true := decide_eq_true hlt
                    have HR := Lib.hid (HPN.out HH2.out hlt)
                    go_wp2
                    go_wp2
                    have hV0 : Up w5 w5.drew := (Up.refl _).drew
                    refine wp_region_calm (S := (fun w' => Up w5 w' ∧ (∀ b o, b < w5.heap.size → w'.cell? ⟨b, o, none⟩ = w5.cell? ⟨b, o, none⟩) ∧ w'.cell? (⟨bt, 0, none⟩) = some (.slice (some ⟨gA, 0, none⟩) j c1) ∧ w'.cell? (⟨gC, k, none⟩) = some (.int .i64 x))) (by kernel_rfl) (by kernel_rfl) (by exact ⟨hV0, fun _ _ hb => hV0.cell hb, (hV0.cell (by first | assumption | (rw [block_of_add]; assumption))).trans (by assumption), (hV0.cell (by first | assumption | (rw [block_of_add]; assumption))).trans (by assumption)⟩) ?_
                    repeat (first | (refine CalmSeq.cons undef (Calm.off (by rfl)) ?_; (try simp only [Act.put, List.setIfInBounds_toArray, List.set_cons_zero, List.set_cons_succ])) | (refine CalmSeq.cons ?_ (Calm.val (by rfl) ?_) ?_; rotate_left; (intro wC hSw; (try dsimp only at hSw); go_simp; done); (try simp only [Act.put, List.setIfInBounds_toArray, List.set_cons_zero, List.set_cons_succ])) | (refine CalmSeq.cons ?_ (Calm.val (by rfl) ?_) ?_; rotate_left; (intro wC hSw; (try dsimp only at hSw); go_simp; with_reducible rfl); (try simp only [Act.put, List.setIfInBounds_toArray, List.set_cons_zero, List.set_cons_succ])) | ((refine CalmSeq.cons ?_ (Calm.call (f := ?_) (args := ?_) (by rfl) ?_ (fun wC hSw => ?_)) ?_; rotate_left 3; (intro wC; go_simp; (refine ⟨?_, ?_⟩ <;> with_reducible rfl)); (go_at_call 50; (with_reducible refine (l8Has_up (hoA5.ri.up hSw.1) hj9 HH.out).mono ?_); rintro e wD ⟨rfl, hbD⟩; apply And.intro; (with_reducible rfl); (have hUD := Up.then_ hSw.1 hbD; exact ⟨hUD, fun _ _ hb => hUD.cell hb, (hUD.cell (by first | assumption | (rw [block_of_add]; assumption))).trans (by assumption), (hUD.cell (by first | assumption | (rw [block_of_add]; assumption))).trans (by assumption)⟩))); (try simp only [Act.put, List.setIfInBounds_toArray, List.set_cons_zero, List.set_cons_succ])))
                    intro w6 hS6
                    have hU6 : Up w5 w6 := hS6.1
                    clear hS6 hV0
                    have hck6 := (hU6.cell (p := ⟨gC, k, none⟩) hlC).trans hck
                    have hU56 := Up.then_ hbk (Up.then_ hU5 hU6)
                    go_wp2
                    go_roundw
                    case rel => exact ⟨k + 1, by omega, by go_num, by rw [HR.out]; rfl, by rw [HR.out]; rfl, by rw [HR.out]; rfl, hU56⟩
                    case measure => simp [intOf]; omega
                  · have d1 : decide (mo < (cn : Int)) = false := decide_eq_false hlt
                    have HR := Lib.hid (HPF.out (by omega))
                    go_wp2
                    go_wp2
                    have hV0 : Up w5 w5.drew := (Up.refl _).drew
                    refine wp_region_calm (S := (fun w' => Up w5 w' ∧ (∀ b o, b < w5.heap.size → w'.cell? ⟨b, o, none⟩ = w5.cell? ⟨b, o, none⟩) ∧ w'.cell? (⟨bt, 0, none⟩) = some (.slice (some ⟨gA, 0, none⟩) j c1) ∧ w'.cell? (⟨gC, k, none⟩) = some (.int .i64 x))) (by kernel_rfl) (by kernel_rfl) (by exact ⟨hV0, fun _ _ hb => hV0.cell hb, (hV0.cell (by first | assumption | (rw [block_of_add]; assumption))).trans (by assumption), (hV0.cell (by first | assumption | (rw [block_of_add]; assumption))).trans (by assumption)⟩) ?_
                    repeat (first | (refine CalmSeq.cons undef (Calm.off (by rfl)) ?_; (try simp only [Act.put, List.setIfInBounds_toArray, List.set_cons_zero, List.set_cons_succ])) | (refine CalmSeq.cons ?_ (Calm.val (by rfl) ?_) ?_; rotate_left; (intro wC hSw; (try dsimp only at hSw); go_simp; done); (try simp only [Act.put, List.setIfInBounds_toArray, List.set_cons_zero, List.set_cons_succ])) | (refine CalmSeq.cons ?_ (Calm.val (by rfl) ?_) ?_; rotate_left; (intro wC hSw; (try dsimp only at hSw); go_simp; with_reducible rfl); (try simp only [Act.put, List.setIfInBounds_toArray, List.set_cons_zero, List.set_cons_succ])) | ((refine CalmSeq.cons ?_ (Calm.call (f := ?_) (args := ?_) (by rfl) ?_ (fun wC hSw => ?_)) ?_; rotate_left 3; (intro wC; go_simp; (refine ⟨?_, ?_⟩ <;> with_reducible rfl)); (go_at_call 50; (with_reducible refine (l8Has_up (hoA5.ri.up hSw.1) hj9 HH.out).mono ?_); rintro e wD ⟨rfl, hbD⟩; apply And.intro; (with_reducible rfl); (have hUD := Up.then_ hSw.1 hbD; exact ⟨hUD, fun _ _ hb => hUD.cell hb, (hUD.cell (by first | assumption | (rw [block_of_add]; assumption))).trans (by assumption), (hUD.cell (by first | assumption | (rw [block_of_add]; assumption))).trans (by assumption)⟩))); (try simp only [Act.put, List.setIfInBounds_toArray, List.set_cons_zero, List.set_cons_succ])))
                    intro w6 hS6
                    have hU6 : Up w5 w6 := hS6.1
                    clear hS6 hV0
                    have hU56 := Up.then_ hbk (Up.then_ hU5 hU6)
                    go_wp2
                    go_roundw
                    case rel => exact ⟨k + 1, by omega, by go_num, by rw [HR.out], by rw [HR.out], by rw [HR.out, Hmo.out], hU56⟩
                    case measure => simp [intOf]; omega
                · have HR := Lib.hid (HPI.out HH2.out)
                  go_wp2
                  go_wp2
                  have hV0 : Up w5 w5.drew := (Up.refl _).drew
                  refine wp_region_calm (S := (fun w' => Up w5 w' ∧ (∀ b o, b < w5.heap.size → w'.cell? ⟨b, o, none⟩ = w5.cell? ⟨b, o, none⟩) ∧ w'.cell? (⟨bt, 0, none⟩) = some (.slice (some ⟨gA, 0, none⟩) j c1) ∧ w'.cell? (⟨gC, k, none⟩) = some (.int .i64 x))) (by kernel_rfl) (by kernel_rfl) (by exact ⟨hV0, fun _ _ hb => hV0.cell hb, (hV0.cell (by first | assumption | (rw [block_of_add]; assumption))).trans (by assumption), (hV0.cell (by first | assumption | (rw [block_of_add]; assumption))).trans (by assumption)⟩) ?_
                  repeat (first | (refine CalmSeq.cons undef (Calm.off (by rfl)) ?_; (try simp only [Act.put, List.setIfInBounds_toArray, List.set_cons_zero, List.set_cons_succ])) | (refine CalmSeq.cons ?_ (Calm.val (by rfl) ?_) ?_; rotate_left; (intro wC hSw; (try dsimp only at hSw); go_simp; done); (try simp only [Act.put, List.setIfInBounds_toArray, List.set_cons_zero, List.set_cons_succ])) | (refine CalmSeq.cons ?_ (Calm.val (by rfl) ?_) ?_; rotate_left; (intro wC hSw; (try dsimp only at hSw); go_simp; with_reducible rfl); (try simp only [Act.put, List.setIfInBounds_toArray, List.set_cons_zero, List.set_cons_succ])) | ((refine CalmSeq.cons ?_ (Calm.call (f := ?_) (args := ?_) (by rfl) ?_ (fun wC hSw => ?_)) ?_; rotate_left 3; (intro wC; go_simp; (refine ⟨?_, ?_⟩ <;> with_reducible rfl)); (go_at_call 50; (with_reducible refine (l8Has_up (hoA5.ri.up hSw.1) hj9 HH.out).mono ?_); rintro e wD ⟨rfl, hbD⟩; apply And.intro; (with_reducible rfl); (have hUD := Up.then_ hSw.1 hbD; exact ⟨hUD, fun _ _ hb => hUD.cell hb, (hUD.cell (by first | assumption | (rw [block_of_add]; assumption))).trans (by assumption), (hUD.cell (by first | assumption | (rw [block_of_add]; assumption))).trans (by assumption)⟩))); (try simp only [Act.put, List.setIfInBounds_toArray, List.set_cons_zero, List.set_cons_succ])))
                  intro w6 hS6
                  have hU6 : Up w5 w6 := hS6.1
                  clear hS6 hV0
                  have hU56 := Up.then_ hbk (Up.then_ hU5 hU6)
                  go_wp2
                  go_roundw
                  case rel => exact ⟨k + 1, by omega, by go_num, by rw [HR.out], by rw [HR.out], by rw [HR.out, Hmo.out], hU56⟩
                  case measure => simp [intOf]; omega
              · obtain rfl : k = L.length := by omega
                rw [hRo.out]
                go_wp2
                go_roundw
                case rel => exact ⟨i + 1, by omega, by go_num, rfl, rfl, rfl, Up.then_ hbi hbk⟩
                case measure => simp [intOf]; omega
          · obtain rfl : i = j := by omega
            rw [Hs.out]
            have hA2 := hoA.up hbi
            have hB2 := hoB.up hbi
            have T0 := Two.start (W := wi) (base := w2.heap.size) hA2 hB2 hne
            have hna : some bt ≠ (Value.slice (some ⟨gA, 0, none⟩) i c1).ownBlock := Ne.symm (own_blk_ne (e := 3) hA2 hbti (by decide))
            have hnb : some bt ≠ (Value.slice (some ⟨gB, 0, none⟩) i d1).ownBlock := Ne.symm (own_blk_ne (e := 3) hB2 hbti (by decide))
            have hsz2 : w2.heap.size ≤ wi.heap.size := Nat.le_trans hb.size hbi.size
            obtain ⟨p1, hp1⟩ : ∃ p1 : Nat, p1 = s.1 := ⟨_, rfl⟩
            obtain ⟨p2, hp2⟩ : ∃ p2 : Nat, p2 = s.2.1 := ⟨_, rfl⟩
            have eF := Lib.hid (show List.map (Value.int .i64) (ints bg) ++ [.int .i64 (p1 : Int)] = List.map (Value.int .i64) (ints (ctB L (m + 1)).1) by rw [HSt.out, hp1]; simp [ints])
            have eG := Lib.hid (show List.map (Value.int .i64) pr ++ [.int .i64 (p2 : Int)] = List.map (Value.int .i64) (ctB L (m + 1)).2 by rw [HSt.out, hp2]; simp)
            rw [show cliqB (-1) (some s) = (p1 : Int) by rw [hp1]; rfl, show parB (-1) (some s) = (p2 : Int) by rw [hp2]; rfl]
            have hbwi := Lib.hid (hb.trans (hbi.mono hb.size))
            have hra := Lib.hid (show ∀ k', (Value.slice (some ⟨gA, 0, none⟩) i c1).ownBlock = some k' → w2.heap.size ≤ k' from fun k' e => (hA2.block k' e).1)
            have hrb := Lib.hid (show ∀ k', (Value.slice (some ⟨gB, 0, none⟩) i d1).ownBlock = some k' → w2.heap.size ≤ k' from fun k' e => (hB2.block k' e).1)
            have HJ2 := Lib.hid (show i + 1 = m + 1 + 1 by rw [hjm.out])
            have hi1 : i ≤ 1048576 := by omega
            have hcell := cell_lit (w := wi) (e := 3) (y := .int .i64 (p1 : Int)) rfl
            have TA := T0.alloc (.cells #[.int .i64 (p1 : Int)] 3)
            clear hp1 hp2 hbt hA2 hB2 hoA hoB hne hM hU1 hU2 hb hbi hb1 hb2 hownC hriC HB7 HG7 HS Hs HSt HMem hX HL HC Hl1
            go_wp2_with (at_builtin; first
              | (refine wpList_pushA rfl (.tmp 74) (.tmp 76) rfl (p1 : Int) rfl TA ⟨wi.heap.size, 0, none⟩ rfl hcell hi1 hsz2 ?_; intro A7 c7 w7 T7; have hbm7 := T7.blk hbti hna hnb; have hx7 := hbm7.two; have hl7 := hbm7.lt; have f70 := hbm7.frozen 0; have hbm8 := hbm7.set_ 0 (.slice A7 (i + 1) c7); have hx8 := hbm8.two; have f81 := hbm8.frozen 1; have hA7 : OwnI w7 w2.heap.size A7 (i + 1) c7 (ints (ctB L (m + 1)).1) := (by unfold OwnI; rw [← eF.out]; exact T7.a); have hB7 : OwnI w7 w2.heap.size (some ⟨gB, 0, none⟩) i d1 pr := T7.b; have hw7 := T7.below hbwi.out hra.out hrb.out hsz2; have hA8 := hA7.other_store (i := 0) hbm7 (by decide) (.slice A7 (i + 1) c7); have hB8 := hB7.other_store (i := 0) hbm7 (by decide) (.slice A7 (i + 1) c7); have hw8 := hw7.setCell (p := ⟨bt, 0, none⟩) hbtge (.slice A7 (i + 1) c7); have T8 := (Two.start (W := w7.setCell ⟨bt, 0, none⟩ (.slice A7 (i + 1) c7)) (base := w2.heap.size) hA8 hB8 T7.ne).alloc (.cells #[.int .i64 (p2 : Int)] 3); have hcell8 := cell_lit (w := w7.setCell ⟨bt, 0, none⟩ (.slice A7 (i + 1) c7)) (e := 3) (y := .int .i64 (p2 : Int)) (g := w7.heap.size) (by simp); have hsz8 : w2.heap.size ≤ (w7.setCell ⟨bt, 0, none⟩ (.slice A7 (i + 1) c7)).heap.size := hw8.size; have hna8 : some bt ≠ (Value.slice A7 (i + 1) c7).ownBlock := Ne.symm (own_blk_ne (e := 3) hA8 hbm8 (by decide)); have hnb8 : some bt ≠ (Value.slice (some ⟨gB, 0, none⟩) i d1).ownBlock := Ne.symm (own_blk_ne (e := 3) hB8 hbm8 (by decide)))
              | (refine wpList_pushB rfl (.tmp 80) (.tmp 82) rfl (p2 : Int) rfl T8 ⟨w7.heap.size, 0, none⟩ rfl hcell8 hi1 hsz8 ?_; intro B9 d9 w9 T9; have hbm9 := T9.blk hbm8 hna8 hnb8; have hx9 := hbm9.two; have hl9 := hbm9.lt; have f91 := hbm9.frozen 1))
            have hA9 : OwnI w9 w2.heap.size A7 (i + 1) c7 (ints (ctB L (m + 1)).1) := T9.a
            have hB9 : OwnI w9 w2.heap.size B9 (i + 1) d9 (ctB L (m + 1)).2 := by unfold OwnI; rw [← eG.out]; exact T9.b
            have hn9 := T9.ne
            have hw9 := T9.below hw8 (fun k' e => (hA8.block k' e).1) (fun k' e => (hB8.block k' e).1) hsz8
            go_roundg (gk - 1)
            case measure => omega
            case rel => exact ⟨m + 1, i + 1, A7, B9, c7, d9, HJ2.out, by omega, hA9.other_store (i := 1) hbm9 (by decide) _, hB9.other_store (i := 1) hbm9 (by decide) _, hn9, hbm9.set_ 1 _, hw9.setCell (p := ⟨bt, 1, none⟩) hbtge _⟩
      · have hjL : j = L.length := by omega
        have HR := Lib.hid (show L.length - 1 = m by rw [← hjL, hjm.out, Nat.add_sub_cancel])
        have hl := HS.out m (by have := hjm.out; omega)
        have HLe := Lib.hid (show (ints (ctB L m).1).length = j ∧ (ctB L m).2.length = j by rw [ints_len, hl.1, hl.2.1]; exact ⟨hjm.out.symm, hjm.out.symm⟩)
        have hnot : ¬ j < L.length := hjt
        have hM5 := hM.below hb hlM
        have f0 := hM5.frozen 0
        have f1 := hM5.frozen 1
        have hyM := hM5.two
        have hlM5 := hM5.lt
        have hsz : w.heap.size ≤ w2.heap.size := hU2.size
        have hbw : Below w.heap.size w wo := hU2.trans (hb.mono hsz)
        have hneM : (w.heap.size + 1) ≠ bt := by omega
        have hfin := ((hM5.set_ 0 (.slice A1 j c1)).set_ 1 (.slice B1 j d1)).two
        have hA3 := (hoA.other_store (i := 0) hM5 (by decide) (.slice A1 j c1)).other_store (i := 1) (hM5.set_ 0 (.slice A1 j c1)) (by decide) (.slice B1 j d1)
        have hB3 := (hoB.other_store (i := 0) hM5 (by decide) (.slice A1 j c1)).other_store (i := 1) (hM5.set_ 0 (.slice A1 j c1)) (by decide) (.slice B1 j d1)
        have hbf := (hbw.setCell (p := ⟨w.heap.size + 1, 0, none⟩) (by simp) (.slice A1 j c1)).setCell (p := ⟨w.heap.size + 1, 1, none⟩) (by simp) (.slice B1 j d1)
        clear hjL hoA hoB hl hjt
        go_wp2
        generalize (wo.setCell ⟨w.heap.size + 1, 0, none⟩ (.slice A1 j c1)).setCell ⟨w.heap.size + 1, 1, none⟩ (.slice B1 j d1) = Wf at hfin hA3 hB3 hbf ⊢
        refine bodyPost_ret (v := .tuple #[.agg #[.slice A1 j c1, .slice B1 j d1], .bool true]) ?_ rfl ?_
        · simp [results, Try.results18, go_sem, hfin]
        rw [HR.out]
        exact ⟨A1, c1, B1, d1, by rw [HLe.out.1, HLe.out.2], (hA3.cast HLe.out.1.symm rfl).more hsz, (hB3.cast HLe.out.2.symm rfl).more hsz, by rw [HLe.out.1, HLe.out.2]; exact hne, hbf⟩
end Go.Proofs.Ytnaoomchekhcgaa
