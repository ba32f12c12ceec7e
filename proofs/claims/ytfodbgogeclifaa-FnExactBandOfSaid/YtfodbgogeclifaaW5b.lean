/- Walks of chapter 5: labels, the lexicographic order of the program. -/
import Derived.Test.YtfodbgogeclifaaW5
import Derived.Test.YtfodbgogeclifaaNat
import Derived.Deep.LoopGhost
namespace Go.Proofs.Ytfodbgogeclifaa
open Go.RowKit
theorem edge_bit {Q : List Nat} {v x : Nat} (h : nb Q v < 128) : bits .and .i64 ((nb Q v : Int) / 2 ^ x) 1 = ((edge Q v x).toNat : Int) := by
  rw [and_one _ _ (by omega), edge]
  cases (nb Q v).testBit x <;> rfl
set_option maxRecDepth 100000 in
set_option maxHeartbeats 1000000 in
theorem label_any (A B : Option Addr) (n c d v : Nat) (Q l : List Nat) (w : World) (hX : RI w A n (ints Q)) (hL : RI w B l.length (ints l)) (h : GOk n Q) (hv : v < n) (hl : ∀ x ∈ l, x < n) (hl7 : l.length ≤ 7) :
    Calls Try.prog 120 #[.agg #[.int .i64 n, .slice A n c], .int .i64 v, .slice B l.length d] w fun e w' => e = .returned (.int .i64 (labL Q v l : Nat)) ∧ Below w.heap.size w w' := by
  have h7 := h.le
  have hU : Up w (w.alloc (.cells #[.int .i64 n, .slice A n c] 45)) := by go_grown
  have hbk := Blk.new w 45 #[.int .i64 n, .slice A n c]
  have hyb := hbk.two
  have Hlt := Lib.hid fun k hk => labL_lt Q v l k hk
  have Hat := Lib.hid fun k (hk : k < l.length) => hl _ (nb_mem hk)
  have Hst := Lib.hid fun k (hk : k < l.length) => labL_take (Q := Q) (v := v) hk
  have Hend := Lib.hid (show labL Q v (l.take l.length) = labL Q v l by rw [List.take_length])
  obtain ⟨a, rfl, _, _⟩ := hX.addr h.pos
  have hcv := (hX.up hU).nbs hv
  have hb7 := h.nb7 v
  have Hbit := Lib.hid fun x => edge_bit (x := x) hb7
  clear hX
  go_enter Try.func120, Try.ntmps120
  go_wp2_with fail
  go_loop [7, 12] (fun x s => ∃ i : Nat, i ≤ l.length ∧ s = .int .i64 i ∧ x = .int .i64 (labL Q v (l.take i) : Nat)) (fun _ s => l.length - (intOf s).toNat)
  case atStart => exact ⟨0, Nat.zero_le _, rfl, rfl⟩
  case round =>
    obtain ⟨i, hi, rfl, rfl⟩ := hrel
    by_cases hit : i < l.length
    · obtain ⟨bd, rfl, hcl⟩ := (hL.up hU).nb_at hit
      have hS := Lib.hid (Hst.out i hit)
      have hxn := Hat.out i hit
      have hlb := Hlt.out i hi
      have hp := Nat.pow_le_pow_right (n := 2) (by omega) (show i ≤ 7 by omega)
      have hbit := Hbit.out (nb l i)
      obtain ⟨x, hx⟩ : ∃ x, x = nb l i := ⟨_, rfl⟩
      rw [← hx] at hcl hS hxn hbit
      obtain ⟨y, hy⟩ : ∃ y, y = labL Q v (l.take i) := ⟨_, rfl⟩
      rw [← hy] at hS hlb ⊢
      clear hx hy
      have hy7 : y < 128 := Nat.lt_of_lt_of_le hlb hp
      clear hlb hp
      obtain ⟨z, hz⟩ : ∃ z, z = (edge Q v x).toNat := ⟨_, rfl⟩
      have hz1 : z ≤ 1 := by rw [hz]; cases edge Q v x <;> simp
      rw [← hz] at hS hbit
      clear hz
      obtain ⟨m2, hme⟩ : ∃ m2 : Nat, m2 = 2 * y := ⟨_, rfl⟩
      have hm2 : wrap64 (2 * (y : Int)) = (m2 : Int) := by rw [IntWalk.wrap64_in _ ⟨by omega, by omega⟩]; omega
      rw [← hme] at hS
      have hm7 : m2 < 256 := by omega
      clear hme hy7
      obtain ⟨t, hte⟩ : ∃ t : Nat, t = m2 + z := ⟨_, rfl⟩
      have ha2 : wrap64 ((m2 : Int) + (z : Int)) = (t : Int) := by rw [IntWalk.wrap64_in _ ⟨by omega, by omega⟩]; omega
      rw [← hte] at hS
      clear hte hm7 hz1
      go_wp2_with fail
      go_round
      case rel => exact ⟨i + 1, by omega, by go_num, by rw [hS.out, ha2]⟩
      case measure => simp [intOf]; omega
    · obtain rfl : i = l.length := by omega
      rw [Hend.out]
      go_wp2
      go_ret
      exact ⟨rfl, hU⟩
theorem lex1_any (A B : Option Addr) (n c d v bG : Nat) (Q l : List Nat) (w : World) (hX : RI w A n (ints Q)) (hL : RI w B l.length (ints l)) (h : GOk n Q) (hv : v < n) (hl : ∀ x ∈ l, x < n) (hl7 : l.length ≤ 7) (hG : Blk w bG 45 #[.int .i64 n, .slice A n c]) :
    Calls Try.prog 119 #[.int .i64 v, .slice B l.length d, .pointer (some ⟨bG, 0, none⟩)] w fun e w' => e = .returned (.int .i64 (labL Q v l : Nat)) ∧ Below w.heap.size w w' := by
  have hyb := hG.two
  go_enter Try.func119, Try.ntmps119
  go_wp2_with fail
  refine (label_any A B n c d v Q l _ hX hL h hv hl hl7).mono ?_
  rintro e w1 ⟨rfl, hb1⟩
  have hU1 : Up w w1 := Up.then_ (by go_grown) hb1
  go_wp2
  go_ret
  exact ⟨rfl, hU1⟩
/-- A list of vertices as an own row goes on. -/
theorem entersL {f : FuncId} {fn : Func} {c : Code} (hf : Try.prog.funcs[f]? = some fn) (hname : (fn.name == "runtime.NumGoroutine") = false) (hb : fn.body = some c) : EntersF f := entersF hf hname hb
theorem allIn_one (N x : Int) : allIn N [x] = (decide (0 ≤ x) && decide (x < N)) := by simp [allIn]
theorem lit_one (w : World) (x : Int) : RI (w.alloc (.cells #[.int .i64 x] 3)) (some ⟨w.heap.size, 0, none⟩) 1 [x] := (Blk.new w 3 #[.int .i64 x]).ri (xs := [x]) rfl
theorem lit_one_at {w : World} {g : Nat} (h : w.heap.size = g) (x : Int) : RI (w.alloc (.cells #[.int .i64 x] 3)) (some ⟨g, 0, none⟩) 1 [x] := by subst h; exact lit_one w x
theorem lit_own {w : World} {g : Nat} (h : w.heap.size = g) {base : Nat} (hb : base ≤ g) (x : Int) : OwnI (w.alloc (.cells #[.int .i64 x] 3)) base (some ⟨g, 0, none⟩) 1 1 [x] := (OwnI.of_blk (L := [x]) (Blk.new_at h) rfl (by simp)).more hb
set_option maxRecDepth 100000 in
set_option maxHeartbeats 4000000 in
theorem greedyLex_any (N s : Int) (A : Option Addr) (n c bG : Nat) (X : List Int) (w : World) (hX : RI w A n X) (hn : n ≤ 9223372036854775807) (hG : Blk w bG 45 #[.int .i64 N, .slice A n c]) :
    Calls Try.prog 118 #[.agg #[.int .i64 N, .slice A n c], .int .i64 s, .func (.func 119) #[] #[.pointer (some ⟨bG, 0, none⟩)]] w (GivesIB (optL (lexOf N X s)) (lexOf N X s).isSome w) := by
  have hbk := Blk.new w 45 #[.int .i64 N, .slice A n c]
  have hU0 : Up w (w.alloc (.cells #[.int .i64 N, .slice A n c] 45)) := by go_grown
  have hl1 := lit_one_at (w := w.alloc (.cells #[.int .i64 N, .slice A n c] 45)) (g := w.heap.size + 1) (by simp) s
  have hbk2 := hbk.alloc (.cells #[.int .i64 s] 3)
  have hyb := hbk2.two
  have hU1 : Up w ((w.alloc (.cells #[.int .i64 N, .slice A n c] 45)).alloc (.cells #[.int .i64 s] 3)) := by go_grown
  rcases lexOf_cases N X s with ⟨h0, hc⟩ | ⟨k, t, Q, rfl, rfl, rfl, h, ht⟩
  · have hv : (isGraph N X && allIn N [s]) = false := by
      rcases hc with e | ⟨e1, e2⟩
      · rw [e]; rfl
      · rw [e1, allIn_one, Bool.true_and]
        rcases Int.lt_or_le s 0 with h' | h'
        · rw [decide_eq_false (by omega)]; rfl
        · rw [decide_eq_false (show ¬ s < N from fun h'' => e2 ⟨h', h''⟩), Bool.and_false]
    have Hv := Lib.hid hv
    rw [h0]
    clear hv hc h0
    go_enter Try.func118, Try.ntmps118
    go_wp2_with (go_at_call 125; refine (isVertex_is (hX.up hU1) hl1 hn (by omega) Hv.out).mono ?_; rintro e w2 ⟨rfl, hb2⟩)
    have hU2 := Up.then_ hU1 hb2
    go_ret2
    exact givesIB_none (OwnI.nil_ _ _) (Nat.le_refl _) hU2
  · obtain rfl : n = k := by rw [← hX.1, ints_len, h.len]
    have hv : (isGraph n (ints Q) && allIn n [(t : Int)]) = true := by rw [h.is, allIn_one, decide_eq_true (by omega), decide_eq_true (by omega)]; rfl
    have Hv := Lib.hid hv
    rw [lexOf_ok h ht]
    have hR := Lib.hid (lexR_order h ht)
    obtain ⟨R, hRe⟩ : ∃ R, R = lexR Q n (n - 1) [t] := ⟨_, rfl⟩
    rw [← hRe]
    rw [← hRe] at hR
    have HR := Lib.hid hRe.symm
    have h1 := h.pos
    have h7 := h.le
    have Hnx := Lib.hid fun l (hv : natVerts n l) (hl : l.length < n) => bestL_next Q hv hl
    have Hone := Lib.hid (one_verts ht)
    have hent := entersL (f := 119) Try.func119 rfl rfl
    unfold EntersF at hent
    clear hv hRe
    go_enter Try.func118, Try.ntmps118
    go_wp2_with (go_at_call 125; refine (isVertex_is (hX.up hU1) hl1 hn (by omega) Hv.out).mono ?_; rintro e w2 ⟨rfl, hb2⟩)
    have hU2 := Up.then_ hU1 hb2
    have hbk3 := (hbk2.up hb2)
    have hG2 := hG.up hU2
    have hown0 := lit_own (w := w2) (g := w2.heap.size) rfl (Nat.le_refl _) (t : Int)
    have hbl0 : Below w2.heap.size w2 (w2.alloc (.cells #[.int .i64 (t : Int)] 3)) := by go_grown
    clear hyb hbk hbk2 hl1 hb2 hU1 hU0
    go_loopg [8] (n - 1) (fun g v wr => ∃ (l : List Nat) (A' : Option Addr) (c' : Nat), v = .slice A' l.length c' ∧ OwnI wr w2.heap.size A' l.length c' (ints l) ∧ Below w2.heap.size w2 wr ∧ l.length + g = n ∧ Hid (natVerts n l ∧ lexR Q n g l = R))
    case atStart => exact ⟨[t], _, _, rfl, hown0, hbl0, by simp; omega, Hone.out, HR.out⟩
    case round =>
      clear hown0 hbl0
      obtain ⟨l, A', c', rfl, hown, hb, hln, hlx⟩ := hrel
      obtain ⟨wo, rfl⟩ : ∃ wo : World, wo = wr := ⟨_, rfl⟩
      have hbo := hbk3.up hb
      have hyo := hbo.two
      by_cases hlt : l.length < n
      · have hlv := Lib.hid hlx.out.1.1
        have HNx := Lib.hid (Hnx.out l hlx.out.1 hlt)
        have HLx := Lib.hid hlx.out.2
        have hl7 : l.length ≤ 7 := by omega
        have hXo := hX.up (Up.then_ hU2 hb)
        have hGo := hG2.up hb
        have hLo := hown.ri
        clear hlx
        go_wp2_with fail
        go_loopw [9, 10, 27] (fun b mo s wr => ∃ k : Nat, k ≤ n ∧ s = .int .i64 k ∧ b = .int .i64 (bestL Q l k) ∧ mo = .int .i64 (mostL Q l (bestL Q l k)) ∧ Up wo wr) (fun _ _ s _ => n - (intOf s).toNat)
        case atStart => exact ⟨0, Nat.zero_le _, rfl, rfl, rfl, Up.refl _⟩
        case round =>
          obtain ⟨k, hk, rfl, rfl, rfl, hbk⟩ := hrel
          obtain ⟨wi, rfl⟩ : ∃ wi : World, wi = wr := ⟨_, rfl⟩
          by_cases hkn : k < n
          · go_wp2_with fail
            refine (lex1_any A A' n c c' k bG Q l _ (hXo.up hbk) (hLo.up hbk) h hkn hlv.out hl7 (hGo.up hbk)).mono ?_
            rintro e w4 ⟨rfl, hb4⟩
            have hU4 := Up.then_ hbk hb4
            have hmk := Lib.hid (mostL_nat Q l k)
            obtain ⟨y, hy⟩ : ∃ y : Int, y = (labL Q k l : Nat) := ⟨_, rfl⟩
            rw [← hy]
            have Hy := Lib.hid hy
            clear hy
            obtain ⟨mo, hmo⟩ : ∃ mo, mo = mostL Q l (bestL Q l k) := ⟨_, rfl⟩
            rw [← hmo]
            have Hmo := Lib.hid hmo
            clear hmo
            rcases Bool.eq_false_or_eq_true (decide (k ∈ l)) with e1 | e1
            · have HN := Lib.hid (bestL_in (Q := Q) (of_decide_eq_true e1))
              rw [← dec_mem] at e1
              have E1 := Lib.hid e1
              clear e1
              go_wp2_with (go_at_call 108; refine (slContains_is (hLo.up hU4) (by omega) E1.out).mono ?_; rintro e w5 ⟨rfl, rfl⟩)
              go_roundw
              case rel => exact ⟨k + 1, by omega, by go_num, by rw [HN.out], by rw [HN.out, ← Hmo.out], hU4⟩
              case measure => simp [intOf]; omega
            · have hnm : k ∉ l := of_decide_eq_false e1
              rw [← dec_mem] at e1
              have E1 := Lib.hid e1
              clear e1
              by_cases hlm : mo < y
              · have HN := Lib.hid (bestL_more hnm (show mostL Q l (bestL Q l k) < (labL Q k l : Int) by rw [← Hmo.out, ← Hy.out]; exact hlm))
                go_wp2_with (go_at_call 108; refine (slContains_is (hLo.up hU4) (by omega) E1.out).mono ?_; rintro e w5 ⟨rfl, rfl⟩)
                go_roundw
                case rel => exact ⟨k + 1, by omega, by go_num, by rw [HN.out], by rw [HN.out, hmk.out, ← Hy.out], hU4⟩
                case measure => simp [intOf]; omega
              · have HN := Lib.hid (bestL_less (Q := Q) (l := l) (k := k) (show ¬ mostL Q l (bestL Q l k) < (labL Q k l : Int) by rw [← Hmo.out, ← Hy.out]; exact hlm))
                go_wp2_with (go_at_call 108; refine (slContains_is (hLo.up hU4) (by omega) E1.out).mono ?_; rintro e w5 ⟨rfl, rfl⟩)
                go_roundw
                case rel => exact ⟨k + 1, by omega, by go_num, by rw [HN.out], by rw [HN.out, ← Hmo.out], hU4⟩
                case measure => simp [intOf]; omega
          · obtain rfl : k = n := by omega
            obtain ⟨b, hbn, hbl, hbe, hbv⟩ := HNx.out
            rw [hbe]
            have hownk := hown.up hbk
            have hcell := (Blk.new wi 3 #[.int .i64 (b : Int)]).one
            have hsz := hb.size
            have hsi := hbk.size
            obtain ⟨g, rfl⟩ : ∃ g, gk = g + 1 := ⟨gk - 1, by omega⟩
            have HLx2 := Lib.hid (show lexR Q k g (l ++ [b]) = R by have := HLx.out; rw [lexR, hbe, Int.toNat_natCast] at this; exact this)
            have Hbv := Lib.hid hbv
            clear hbe hbl HNx hbv
            go_wp2_with (at_builtin; refine wpList_push rfl (.tmp 46) (.tmp 48) rfl (b : Int) rfl (hownk.alloc _) ⟨wi.heap.size, 0, none⟩ rfl hcell (by omega) (by simp; omega) ?_; intro A7 c7 w7 hown7 hb7 hg7)
            go_roundg g
            case measure => omega
            case rel =>
              exact ⟨l ++ [b], A7, c7, by rw [← push_len], hown7.cast push_len (by rw [ints_snoc]), ((hb.trans (hbk.mono hsz)).alloc (Nat.le_trans hsz hsi) _).trans hb7, by rw [← push_len]; omega, Hbv.out, HLx2.out⟩
      · have e : gk = 0 := by omega
        subst e
        have HE := Lib.hid (show l = R from hlx.out.2)
        go_wp2
        go_ret2
        rw [← HE.out]
        exact givesIB_some hown hU2.size (Up.then_ hU2 hb)
theorem implLexOrder_any (N s : Int) (A : Option Addr) (n c : Nat) (X : List Int) (w : World) (hX : RI w A n X) (hn : n ≤ 9223372036854775807) :
    Calls Try.prog 96 #[.agg #[.int .i64 N, .slice A n c], .int .i64 s] w (GivesIB (optL (lexOf N X s)) (lexOf N X s).isSome w) := by
  have hbk := Blk.new w 45 #[.int .i64 N, .slice A n c]
  have hyb := hbk.two
  go_enter Try.func96, Try.ntmps96
  go_wp2_with fail
  refine (greedyLex_any N s A n c w.heap.size X _ (hX.alloc _) hn hbk).mono ?_
  rintro e w1 ⟨A1, c1, rfl, hown, hb1⟩
  have hU1 : Up w w1 := Up.then_ (by go_grown) hb1
  go_wp2
  go_ret2
  exact ⟨A1, c1, rfl, hown.more (by simp), hU1⟩
end Go.Proofs.Ytfodbgogeclifaa
