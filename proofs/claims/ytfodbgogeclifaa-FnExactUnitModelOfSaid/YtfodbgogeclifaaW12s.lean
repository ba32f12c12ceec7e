/- Walks of chapter 12: the first umbrella order. -/
import Derived.Test.YtfodbgogeclifaaW12
import Derived.Test.YtfodbgogeclifaaPureS
import Derived.Test.YtfodbgogeclifaaNat
import Derived.Test.YtfodbgogeclifaaGives
import Derived.ArgAppend
namespace Go.Proofs.Ytfodbgogeclifaa
open Go.RowKit
set_option maxHeartbeats 1000000 in
theorem l8Has_any (A : Option Addr) (n c : Nat) (v : Int) (xs : List Int) (w : World) (hA : RI w A n xs) (hn : n ≤ 9223372036854775807) :
    Calls Try.prog 105 #[.slice A n c, .int .i64 v] w fun e w' => e = .returned (.bool (decide (v ∈ xs))) ∧ w = w' := by
  have HX := Lib.hid hA.1
  go_enter Try.func105, Try.ntmps105
  go_wp2
  go_loop [5] (fun i => ∃ k : Nat, k ≤ n ∧ i = .int .i64 k ∧ Hid (∀ j, j < k → xs.getD j 0 ≠ v)) (fun i => n - (intOf i).toNat)
  case atStart => exact ⟨0, Nat.zero_le _, rfl, fun j h => absurd h (by omega)⟩
  case round =>
    obtain ⟨k, hk, rfl, hno⟩ := hrel
    by_cases hlt : k < n
    · obtain ⟨a, rfl, _, hca⟩ := hA.at_ hlt
      by_cases e : xs.getD k 0 = v
      · have HR := Lib.hid (show v ∈ xs by
          have hk' : k < xs.length := by rw [HX.out]; exact hlt
          have h1 : xs[k] = v := by simpa [List.getD, List.getElem?_eq_getElem hk'] using e
          exact h1 ▸ List.getElem_mem hk')
        have hd : (xs[k]?.getD 0 == v) = true := by rw [beq_iff_eq]; exact e
        clear e
        go_wp2
        go_ret
        exact ⟨ret_bool (decide_eq_true HR.out).symm, rfl⟩
      · have hd : (xs[k]?.getD 0 == v) = false := by rw [beq_eq_false_iff_ne]; exact e
        have He := Lib.hid e
        clear e
        go_wp2
        go_round
        case rel => exact ⟨k + 1, by omega, by go_num, fun j hj => by
          rcases Nat.lt_succ_iff_lt_or_eq.1 hj with h' | rfl
          · exact hno.out j h'
          · exact He.out⟩
        case measure => simp [intOf]; omega
    · obtain rfl : k = n := by omega
      have HR := Lib.hid (show v ∉ xs from fun hm => by
        obtain ⟨j, hj, e⟩ := List.mem_iff_getElem.1 hm
        exact hno.out j (by rw [← HX.out]; exact hj) (by simp [List.getD, List.getElem?_eq_getElem hj, e]))
      go_wp2
      go_ret
      exact ⟨ret_bool (decide_eq_false HR.out).symm, rfl⟩
theorem l8Has_is {A : Option Addr} {n c : Nat} {v : Int} {xs : List Int} {w : World} {b : Bool} (hA : RI w A n xs) (hn : n ≤ 9223372036854775807) (h : decide (v ∈ xs) = b) :
    Calls Try.prog 105 #[.slice A n c, .int .i64 v] w fun e w' => e = .returned (.bool b) ∧ w = w' := by
  subst h; exact l8Has_any A n c v xs w hA hn
/-- What a search gives: the list that it found, the call's own from base on. -/
def GivesR (r : Option (List Nat)) (base : Nat) (w : World) (e : Ending) (w' : World) : Prop :=
  ∃ A c, e = .returned (.tuple #[.slice A (r.getD []).length c, .bool r.isSome]) ∧ OwnI w' base A (r.getD []).length c (ints (r.getD [])) ∧ Below w.heap.size w w'
/-- 'append(v, xs...)', v the call's own and empty. -/
theorem wpList_cat {ops : Array Oper} {rest : List Oper} {o : Oper} {a : Act} {Q : Exit → Act → World → Prop} {w : World} (hgd : o.guard = none) (s x : Operand)
    (ho : o.op = .call { callee := .builtin .append, args := #[s, x], argTypes := #[22, 22] })
    {base c m d : Nat} {A : Option Addr} {ad : Addr} {ys : List Int} (hs : a.eval s = .slice A 0 c) (hown : OwnI w base A 0 c [])
    (hx : a.eval x = .slice (some ad) m d) (hri : RI w (some ad) m ys) (hn : m ≤ 1048576) (hbase : base ≤ w.heap.size)
    (h : ∀ A' c' w', OwnI w' base A' m c' ys → Below base w w' → w.grownBy w' (Value.slice A 0 c).ownBlock → wpList Try.prog ops Q rest (a.put o.dst (.slice A' m c')) w') : wpList Try.prog ops Q (o :: rest) a w :=
  wpList_plain hgd fun K hK => by
    have hw : Region.wanted o (yielded ops a.tmps) = true := by simp [Region.wanted, hgd]
    have := step_append_new (ops := ops) (K := K) (Q := Q) (E := False) hgd s x ho hs hown hx hri hn hbase fun A' c' w' h1 h2 h3 => hK _ _ (h A' c' w' h1 h2 h3)
    rwa [if_pos hw] at this
theorem ints_app (l : List Nat) (v : Nat) : ints (l ++ [v]) = ints l ++ [(v : Int)] := (ints_snoc l v).symm
theorem dec_mem (l : List Nat) (v : Nat) : decide ((v : Int) ∈ ints l) = decide (v ∈ l) := decide_eq_decide.2 ints_mem'
set_option maxRecDepth 100000 in
set_option maxHeartbeats 4000000 in
theorem l12Search_any (n ca : Nat) (A : Option Addr) (Q : List Nat) (h : GOk n Q) (base : Nat) : ∀ (f : Nat) (l : List Nat) (bd : Addr) (c : Nat) (w : World), l.length + f = n → (∀ v ∈ l, v < n) → OwnI w base (some bd) l.length c (ints l) → base ≤ w.heap.size → RI w A n (ints Q) →
    Calls Try.prog 85 #[.agg #[.int .i64 n, .slice A n ca], .slice (some bd) l.length c] w (GivesR (srch (umb Q) yes n f l) base w) := by
  have hn7 := h.le
  intro f
  induction f with
  | zero =>
    intro l bd c w hf hl hown hbase hX
    have hb0 := Blk.new w 45 #[.int .i64 n, .slice A n ca]
    have hyb := hb0.two
    have hlen : l.length = n := by omega
    have Hl := Lib.hid hlen
    have heq : ((l.length : Int) == (n : Int)) = true := by rw [beq_iff_eq]; omega
    have hown' := hown.alloc (.cells #[.int .i64 n, .slice A n ca] 45)
    clear hlen
    go_enter Try.func85, Try.ntmps85
    go_wp2_with fail
    go_ret2
    exact ⟨some bd, c, rfl, hown', by go_grown⟩
  | succ f ih =>
    intro l bd c w hf hl hown hbase hX
    have hne : ((l.length : Int) == (n : Int)) = false := by rw [beq_eq_false_iff_ne]; omega
    have Hl := Lib.hid hl
    have Ih := Lib.hid ih
    have HS := Lib.hid (srch_step (umb Q) yes n f l)
    have hb0 := Blk.new w 45 #[.int .i64 n, .slice A n ca]
    have hyb := hb0.two
    clear hl ih
    go_enter Try.func85, Try.ntmps85
    go_wp2_with fail
    go_loopw [6] (fun i wr => ∃ k : Nat, k ≤ n ∧ i = .int .i64 k ∧ Blk wr w.heap.size 45 #[.int .i64 n, .slice A n ca] ∧ Below w.heap.size w wr ∧ Hid (srchK (umb Q) yes n f l k = none)) (fun i _ => n - (intOf i).toNat)
    case atStart => exact ⟨0, Nat.zero_le _, rfl, hb0, by go_grown, srchK_zero _ _ _ _ _⟩
    case round =>
      clear hb0 hyb
      obtain ⟨k, hk, rfl, hb0, hb, hno⟩ := hrel
      have hyb := hb0.two
      by_cases hkt : k < n
      · have hsz := hb.size
        have hownr := hown.up hb
        have hown0 := OwnI.made (base := wr.heap.size) wr (Nat.le_refl _)
        have hll : l.length + 1 ≤ 1048576 := by omega
        go_wp2_with (at_builtin; first | (refine wpList_cat rfl (.tmp 22) (.tmp 23) rfl rfl hown0 rfl (hownr.ri.alloc _) (by omega) (by simp) ?_; intro A1 c1 w1 hown1 hb1 hg1; have hcell := (Blk.new w1 3 #[.int .i64 (k : Int)]).one; have hsz1 := hb1.size; simp only [World.size_alloc] at hsz1) | (refine wpList_push rfl (.tmp 24) (.tmp 26) rfl (k : Int) rfl (hown1.alloc _) ⟨w1.heap.size, 0, none⟩ rfl hcell (by omega) (by simp; omega) ?_; intro A2 c2 w2 hown2 hb2 hg2))
        have hU1 : Up wr w1 := ((Below.refl _ wr).alloc (Nat.le_refl _) _).trans hb1
        have hU2 : Up wr w2 := (hU1.alloc (Nat.le_of_succ_le hsz1) _).trans hb2
        have hx2 : OwnI w2 wr.heap.size A2 (l.length + 1) c2 (ints (l ++ [k])) := hown2.cast rfl (ints_app l k).symm
        have HLen := Lib.hid (show (l ++ [k]).length = l.length + 1 from push_len.symm)
        obtain ⟨gx, rfl⟩ := hx2.form (by omega)
        clear hown0 hown1 hown2 hcell hg1 hg2 hyb
        replace hb0 := hb0.up hU2
        have hyb := hb0.two
        have hlb := hb0.lt
        have hw2 := Up.then_ hb hU2
        have hownr2 := hownr.up hU2
        rcases Bool.eq_false_or_eq_true (decide (k ∈ l)) with e1 | e1
        · have HA := Lib.hid (srchAt_off (may := umb Q) (holds := yes) (N := n) (f := f) (v := k) (l := l) (by rw [nextOk, e1]; rfl))
          rw [← dec_mem] at e1
          refine (l8Has_is hownr2.ri (by omega) e1).mono ?_
          clear e1
          rintro e w3 ⟨rfl, rfl⟩
          go_wp2
          go_roundw
          case rel => exact ⟨k + 1, by omega, by go_num, hb0, hw2, srchK_none hno.out HA.out⟩
          case measure => simp [intOf]; omega
        · have hlv : ∀ v ∈ l ++ [k], v < n := fun v hv => by
            rcases List.mem_append.1 hv with hv | hv
            · exact Hl.out v hv
            · obtain rfl : v = k := by simpa using hv
              exact hkt
          have Hlv := Lib.hid hlv
          clear hlv
          have E1 := Lib.hid e1
          rw [← dec_mem] at e1
          refine (l8Has_is hownr2.ri (by omega) e1).mono ?_
          clear e1
          rintro e w3 ⟨rfl, rfl⟩
          have yhb0 := hb0.two
          have lhb0 := hb0.lt
          go_wp2_with fail
          refine (specUmb_any A ⟨gx, 0, none⟩ n ca (l.length + 1) c2 Q (l ++ [k]) _ (hX.up hw2) hx2.ri h Hlv.out (by omega)).mono ?_
          rintro e w4 ⟨rfl, hb4⟩
          have hU4 : Up w2 w4 := Up.then_ (by go_grown) hb4
          replace hx2 := hx2.up hU4
          replace hb0 := hb0.up hU4
          replace yhb0 := hb0.two
          replace lhb0 := hb0.lt
          have hw4 := Up.then_ hw2 hU4
          rcases Bool.eq_false_or_eq_true (umb Q (l ++ [k])) with e2 | e2
          · have HA := Lib.hid (srchAt_on (holds := yes) (N := n) (f := f) (show nextOk (umb Q) l k = true by rw [nextOk, E1.out, e2]; rfl))
            rw [e2]
            clear e2
            have hsz4 := hw4.size
            go_wp2_with fail
            have hih := Ih.out (l ++ [k]) ⟨gx, 0, none⟩ c2 w4 (by rw [HLen.out]; omega) Hlv.out (hx2.more (by omega) |>.cast HLen.out.symm rfl) (by omega) (hX.up hw4)
            rw [HLen.out] at hih
            refine hih.mono ?_
            clear hih
            intro e w5 hg5
            obtain ⟨A5, c5, rfl, hown5, hb5⟩ := hg5
            have hw5 := Up.then_ hw4 hb5
            replace hb0 := hb0.up hb5
            rcases hsr : srch (umb Q) yes n f (l ++ [k]) with _ | r
            · have HK := Lib.hid (srchK_none hno.out (HA.out.trans hsr))
              rw [hsr] at hown5
              go_wp2
              go_roundw
              case rel => exact ⟨k + 1, by omega, by go_num, hb0, hw5, HK.out⟩
              case measure => simp [intOf]; omega
            · have HK := Lib.hid (srchK_some hno.out (HA.out.trans hsr) hkt)
              rw [hsr] at hown5
              go_wp2
              go_ret2
              rw [HK.out]
              exact ⟨A5, c5, rfl, hown5, hw5⟩
          · have HA := Lib.hid (srchAt_off (may := umb Q) (holds := yes) (N := n) (f := f) (v := k) (l := l) (by rw [nextOk, E1.out, e2]; rfl))
            rw [e2]
            clear e2
            go_wp2
            go_roundw
            case rel => exact ⟨k + 1, by omega, by go_num, hb0, hw4, srchK_none hno.out HA.out⟩
            case measure => simp [intOf]; omega
      · obtain rfl : k = n := by omega
        have hsz := hb.size
        have HN := Lib.hid (HS.out.trans hno.out)
        have hown0 := OwnI.made (base := base) wr (by omega)
        have hww := hb.alloc hsz (.cells #[] 3)
        go_wp2
        go_ret2
        rw [HN.out]
        exact ⟨_, _, rfl, hown0, hww⟩
end Go.Proofs.Ytfodbgogeclifaa
