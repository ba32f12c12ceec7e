/- Rows of rows of numbers that are the call's own. Walks of chapter 2: the edges of a graph; chapter 12: the band of an order. Walks of chapter 12: the band of an order. IsUmbrella, whatever the capacity of the list. -/
import Derived.Test.YthncdjcmlpiebaaGreatQp01
import Derived.Test.YthncdjcmlpiebaaGreatQp02
import Derived.Test.YthncdjcmlpiebaaGreatQp03
import Derived.Test.YthncdjcmlpiebaaGreatQp04
import Derived.Test.YthncdjcmlpiebaaGreatQp05
import Derived.Test.YthncdjcmlpiebaaGreatQp08
import Derived.Test.YthncdjcmlpiebaaGreatQp10
namespace Go.Proofs.YthncdjcmlpiebaaGreat
open Go.RowKit
set_option maxRecDepth 100000 in
theorem Tryz.infoS : (Tryz.prog.info? 24).map (fun i => (i.zero, i.size, i.bytes)) = some (some (.slice none 0 0), 1, 24) := by kernel_rfl
/-- A row: where it lies, its room, what it holds. -/
abbrev RowP := (Option Addr × Nat) × List Int
def rowV (p : RowP) : Value := .slice p.1.1 p.2.length p.1.2
/-- The slice '.slice A n c' of rows is the call's own, its rows too, each in a block of its own. -/
structure OwnS (w : World) (base : Nat) (A : Option Addr) (n c : Nat) (ps : List RowP) : Prop where
  top : w.ownsRow base 24 1 (.slice A n c) n (ps.map rowV)
  rows : ∀ p ∈ ps, OwnI w base p.1.1 p.2.length p.1.2 p.2
  apart : ps.Pairwise fun p q => ∀ j, (rowV p).ownBlock = some j → (rowV q).ownBlock ≠ some j
section
variable {w w' : World} {base n c : Nat} {A : Option Addr} {ps : List RowP}
set_option maxRecDepth 100000 in
theorem OwnS.len (h : OwnS w base A n c ps) : ps.length = n := by have := h.top.1; simpa using this
set_option maxRecDepth 100000 in
theorem OwnS.nil_ (w : World) (base : Nat) : OwnS w base none 0 0 [] := ⟨World.ownsRow_nil _ _ _ _, (fun _ h => by cases h), List.Pairwise.nil⟩
set_option maxRecDepth 100000 in
theorem OwnS.made {g : Nat} (h : w.heap.size = g) (hb : base ≤ g) : OwnS (w.alloc (.cells #[] 24)) base (some ⟨g, 0, none⟩) 0 0 [] := by
  subst h
  exact ⟨World.ownsRow_made w #[] 0 hb (by decide) (by simp), (fun _ h => by cases h), List.Pairwise.nil⟩
set_option maxRecDepth 100000 in
theorem ownsRow_up {base n : Nat} {e : TypeId} {v : Value} {xs : List Value} (h : w.ownsRow base e 1 v n xs) (hb : Below w.heap.size w w') : w'.ownsRow base e 1 v n xs := by
  rcases hv : v.ownBlock with _ | g
  · exact World.ownsRow.kept h (only_of_below hb none) (.inl hv)
  · exact World.ownsRow.kept h (only_of_below hb none) (.inr (by rw [hv]; simp))
set_option maxRecDepth 100000 in
theorem OwnS.up (h : OwnS w base A n c ps) (hb : Below w.heap.size w w') : OwnS w' base A n c ps := ⟨ownsRow_up h.top hb, fun p hp => (h.rows p hp).up hb, h.apart⟩
set_option maxRecDepth 100000 in
theorem OwnS.more {base' : Nat} (h : OwnS w base A n c ps) (hb : base' ≤ base) : OwnS w base' A n c ps := by
  refine ⟨?_, fun p hp => (h.rows p hp).more hb, h.apart⟩
  refine ⟨h.top.1, ?_⟩
  rcases h.top.2 with hn | ⟨g, cap, cur, hv, hg, rest⟩
  · exact .inl hn
  · exact .inr ⟨g, cap, cur, hv, by omega, rest⟩
set_option maxRecDepth 100000 in
theorem OwnS.alloc (h : OwnS w base A n c ps) (o : Obj) : OwnS (w.alloc o) base A n c ps := ⟨World.ownsRow.alloc h.top o, fun p hp => (h.rows p hp).alloc o, h.apart⟩
set_option maxRecDepth 100000 in
theorem OwnS.block (h : OwnS w base A n c ps) : ∀ k, (Value.slice A n c).ownBlock = some k → base ≤ k ∧ k < w.heap.size := World.ownsRow.lt h.top
set_option maxRecDepth 100000 in
/-- Row k. -/
theorem OwnS.at_ {k : Nat} (h : OwnS w base A n c ps) (hk : k < n) : ∃ g p, A = some ⟨g, 0, none⟩ ∧ ps[k]? = some p ∧ w.cell? ((⟨g, 0, none⟩ : Addr).add k) = some (rowV p) ∧ OwnI w base p.1.1 p.2.length p.1.2 p.2 := by
  have hl := h.len
  have hk' : k < ps.length := by omega
  rcases h.top.2 with ⟨_, h0⟩ | ⟨g, cap, cur, hv, _⟩
  · omega
  · injection hv with e1 e2 e3
    subst e1
    refine ⟨g, ps[k], rfl, List.getElem?_eq_getElem hk', World.ownsRow.cells h.top rfl k _ (by rw [List.getElem?_map, List.getElem?_eq_getElem hk']; rfl), h.rows _ (List.getElem_mem hk')⟩
set_option maxRecDepth 100000 in
/-- A block of a row is no block of the outer slice. -/
theorem OwnI.ne_top {base' m d : Nat} {B : Option Addr} {xs : List Int} {vs : List Value} (h : OwnI w base' B m d xs) (ht : w.ownsRow base 24 1 (.slice A n c) n vs) : (Value.slice B m d).ownBlock = none ∨ (Value.slice B m d).ownBlock ≠ (Value.slice A n c).ownBlock := by
  rcases h.2 with ⟨hv, _⟩ | ⟨g, cap, cur, hv, _, hg, _⟩
  · exact .inl (by rw [hv]; rfl)
  · rcases ht.2 with ⟨hv', _⟩ | ⟨g', cap', cur', hv', _, hg', _⟩
    · exact .inr (by rw [hv, hv']; simp [Value.ownBlock])
    · refine .inr fun e => ?_
      rw [hv, hv'] at e
      have e2 : g = g' := by simpa [Value.ownBlock] using e
      subst e2
      exact absurd rfl (Blk.ne_ (t := 3) (t' := 24) hg hg' (by decide))
end
set_option maxRecDepth 100000 in
/-- A row more. -/
theorem wpList_pushS {ops : Array Oper} {rest : List Oper} {o : Oper} {a : Act} {Q : Exit → Act → World → Prop} {w : World} (hgd : o.guard = none) (s x : Operand)
    (ho : o.op = .call { callee := .builtin .append, args := #[s, x], argTypes := #[46, 46] }) {base n c : Nat} {A : Option Addr} {ps : List RowP} (p : RowP) (hs : a.eval s = .slice A n c) (hown : OwnS w base A n c ps)
    (ad : Addr) (hx : a.eval x = .slice (some ad) 1 1) (hc : w.cell? ad = some (rowV p)) (hrow : OwnI w base p.1.1 p.2.length p.1.2 p.2) (hap : ∀ q ∈ ps, ∀ j, (rowV q).ownBlock = some j → (rowV p).ownBlock ≠ some j) (hn : n ≤ 1048576) (hbase : base ≤ w.heap.size)
    (h : ∀ A' c' w', OwnS w' base A' (n + 1) c' (ps ++ [p]) → w.grownBy w' (Value.slice A n c).ownBlock → Below base w w' → wpList Tryz.prog ops Q rest (a.put o.dst (.slice A' (n + 1) c')) w') : wpList Tryz.prog ops Q (o :: rest) a w :=
  wpList_plain hgd fun K hKK => by
    obtain ⟨i0, hi, hz0, hz1, hz2⟩ := info_parts Tryz.infoS
    refine wp_push2 s x 46 24 ho i0 (.slice none 0 0) 24 Tryz.underlying46 hi hz0 hz1 hz2 rfl hs hown.top ad _ hx hc rfl (by unfold maxLen; omega) (by omega) hbase fun A' c' w' h2 h3 _ => ?_
    refine hKK _ _ (h A' c' w' ⟨by rw [List.map_append]; exact h2, fun q hq => ?_, ?_⟩ h3 ((Below.refl _ _).grown h3 hbase fun k hk => (World.ownsRow.lt hown.top k hk).1))
    · rcases List.mem_append.1 hq with hq | hq
      · exact (hown.rows q hq).kept h3 ((hown.rows q hq).ne_top hown.top)
      · obtain rfl : q = p := by simpa using hq
        exact hrow.kept h3 (hrow.ne_top hown.top)
    · rw [List.pairwise_append]
      exact ⟨hown.apart, List.pairwise_singleton _ _, fun q hq r hr => by
        obtain rfl : r = p := by simpa using hr
        exact hap q hq⟩
/-- A slice of rows, of the call's own making. -/
def GivesS (xss : List (List Int)) (w : World) (e : Ending) (w' : World) : Prop :=
  ∃ A c ps, ps.map Prod.snd = xss ∧ e = .returned (.slice A ps.length c) ∧ OwnS w' w.heap.size A ps.length c ps ∧ Below w.heap.size w w'
end Go.Proofs.YthncdjcmlpiebaaGreat
namespace Go.Proofs.YthncdjcmlpiebaaGreat
open Go.RowKit
def edgesOf (N : Int) (X : List Int) : List (Nat × Nat) := if isGraph N X then edges (X.map Int.toNat) N.toNat else []
set_option maxRecDepth 100000 in
theorem edgesOf_no {N : Int} {X : List Int} (h : isGraph N X = false) : edgesOf N X = [] := by rw [edgesOf, h]; rfl
set_option maxRecDepth 100000 in
theorem edgesOf_ok {n : Nat} {Q : List Nat} (h : GOk n Q) : edgesOf n (ints Q) = edges Q n := by rw [edgesOf, if_pos h.is, nats_ints, Int.toNat_natCast]
set_option maxRecDepth 100000 in
theorem snoc_lenS {ps : List RowP} {p : RowP} : (ps ++ [p]).length = ps.length + 1 := by simp
set_option maxRecDepth 100000 in
/-- A row of two numbers in a new block. -/
theorem row2_own {w : World} {g base : Nat} (h : w.heap.size = g) (hb : base ≤ g) (x y : Int) : OwnI (w.alloc (.cells #[.int .i64 x, .int .i64 y] 3)) base (some ⟨g, 0, none⟩) 2 2 [x, y] := (OwnI.of_blk (L := [x, y]) (Blk.new_at h) rfl (by simp)).more hb
set_option maxRecDepth 100000 in
theorem new_apart {w : World} {base A n c : Nat} {B : Option Addr} {ps : List RowP} (h : OwnS w base B n c ps) (hA : w.heap.size ≤ A) : ∀ q ∈ ps, ∀ j, (rowV q).ownBlock = some j → some A ≠ some j := fun q hq j hj e => by
  have := ((h.rows q hq).block j hj).2
  injection e with e
  omega
set_option maxRecDepth 100000 in
set_option maxHeartbeats 2000000 in
theorem implEdgesOf_any (N : Int) (A : Option Addr) (n c : Nat) (X : List Int) (w : World) (hX : RI w A n X) (hn : n ≤ 9223372036854775807) :
    Calls Tryz.prog 78 #[.agg #[.int .i64 N, .slice A n c]] w (GivesS ((edgesOf N X).map row2) w) := by
  have hbk := (Blk.new w 26 #[.int .i64 N, .slice A n c]).alloc (.cells #[] 24)
  have hown0 := OwnS.made (w := w.alloc (.cells #[.int .i64 N, .slice A n c] 26)) (g := w.heap.size + 1) (base := w.heap.size + 1) (by simp) (by omega)
  have hyb := hbk.two
  rcases isGraph_cases N X with hg | ⟨k, Q, rfl, rfl, h⟩
  · have H1 := Lib.hid hg
    rw [edgesOf_no hg]
    clear hg
    go_enter Tryz.func78, Tryz.ntmps78
    go_wp2_with fail
    refine (implIsGraph_is (hX.up (by go_grown)) hn H1.out).mono ?_
    rintro e w1 ⟨rfl, hb1⟩
    have hU1 : Up w w1 := Up.then_ (by go_grown) hb1
    go_wp2
    go_ret
    exact ⟨_, _, [], rfl, rfl, (hown0.up hb1).more (by omega), hU1⟩
  · obtain rfl : n = k := by rw [← hX.1, ints_len, h.len]
    rw [edgesOf_ok h]
    have h7 := h.le
    have h1 := h.pos
    have Hel := Lib.hid fun v x => (Nat.le_refl _ : (edgV Q v x).length ≤ (edgV Q v x).length)
    have HlV := Lib.hid fun v x => edgV_len Q v x
    have HlK := Lib.hid fun k => edgK_len Q n k
    have Hb7 := Lib.hid fun v => h.nb7 v
    obtain ⟨R, hR⟩ : ∃ R, R = edges Q n := ⟨_, rfl⟩
    rw [← hR]
    have HR := Lib.hid (show edgK Q n n = R from hR.symm)
    clear hR Hel
    go_enter Tryz.func78, Tryz.ntmps78
    have hXw := Lib.hid hX
    go_wp2_with fail
    refine (implIsGraph_is (hX.up (by go_grown)) hn h.is).mono ?_
    rintro e w1 ⟨rfl, hb1⟩
    have hU1 : Up w w1 := Up.then_ (by go_grown) hb1
    replace hX := hX.up hU1
    have hown1 := hown0.up hb1
    have hbk1 := hbk.up hb1
    have hyb1 := hbk1.two
    have hsz1 : w.heap.size + 1 < w1.heap.size := by have := hb1.size; simp at this; omega
    obtain ⟨a, rfl, _, _⟩ := hX.addr h.pos
    clear hyb hbk hown0 hb1
    go_wp2_with fail
    go_loopw [3, 15] (fun s i wr => ∃ (v : Nat) (A' : Option Addr) (c' : Nat) (ps : List RowP), v ≤ n ∧ i = .int .i64 v ∧ s = .slice A' ps.length c' ∧ OwnS wr (w.heap.size + 1) A' ps.length c' ps ∧ Hid (ps.map Prod.snd = (edgK Q n v).map row2) ∧ Below (w.heap.size + 1) w1 wr) (fun _ i _ => n - (intOf i).toNat)
    case atStart => exact ⟨0, _, _, [], Nat.zero_le _, rfl, rfl, hown1, rfl, Below.refl _ _⟩
    case round =>
      clear hown1
      obtain ⟨v, A', c', ps, hv, rfl, rfl, hown, hps, hb⟩ := hrel
      obtain ⟨wo, rfl⟩ : ∃ wo : World, wo = wr := ⟨_, rfl⟩
      have hUo : Up w wo := hU1.trans (hb.mono (by omega))
      have hlK := HlK.out v
      have hpl : ps.length = (edgK Q n v).length := by have := congrArg List.length hps.out; simpa using this
      by_cases hvn : v < n
      · have hXo := hXw.out.up hUo
        have hcv := hXo.nbs hvn
        have hyo := (hbk1.below hb (by omega)).two
        have hb7 := Hb7.out v
        obtain ⟨r, hr⟩ : ∃ r, r = nb Q v := ⟨_, rfl⟩
        rw [← hr] at hcv hb7
        have Hr := Lib.hid hr
        clear hr
        go_wp2_with fail
        go_loopw [3, 6] (fun s i wr => ∃ (x : Nat) (A' : Option Addr) (c' : Nat) (ps : List RowP), v < x ∧ x ≤ n ∧ i = .int .i64 x ∧ s = .slice A' ps.length c' ∧ OwnS wr (w.heap.size + 1) A' ps.length c' ps ∧ Hid (ps.map Prod.snd = (edgK Q n v ++ edgV Q v x).map row2) ∧ Below (w.heap.size + 1) w1 wr) (fun _ i _ => n - (intOf i).toNat)
        case atStart => exact ⟨v + 1, A', c', ps, by omega, by omega, by go_num, rfl, hown, by rw [edgV_low Q v (v + 1) (by omega), List.append_nil]; exact hps.out, hb⟩
        case round =>
          clear hown hps hpl
          obtain ⟨x, A2, c2, qs, hvx, hx, rfl, rfl, hown, hqs, hb2⟩ := hrel
          obtain ⟨wi, rfl⟩ : ∃ wi : World, wi = wr := ⟨_, rfl⟩
          have hyi := (hbk1.below hb2 (by omega)).two
          by_cases hxn : x < n
          · have hql : qs.length ≤ 49 + 7 := by
              have h1 := congrArg List.length hqs.out
              have h2 := HlK.out v
              have h3 := HlV.out v x
              have h4 : v * n ≤ 7 * 7 := Nat.mul_le_mul (by omega) h7
              simp at h1
              omega
            rcases Bool.eq_false_or_eq_true (edge Q v x) with e1 | e1
            · have H1 := Lib.hid (show r.testBit x = true by rw [Hr.out]; exact e1)
              have HN := Lib.hid (show (qs.map Prod.snd) ++ [[(v : Int), (x : Int)]] = (edgK Q n v ++ edgV Q v (x + 1)).map row2 by
                rw [hqs.out, edgV_yes hvx e1]; simp [row2])
              clear e1
              have hrow := (row2_own (w := wi) (g := wi.heap.size) (base := w.heap.size + 1) rfl (by have := hb2.size; omega) (v : Int) (x : Int)).alloc (.cells #[.slice (some ⟨wi.heap.size, 0, none⟩) 2 2] 24)
              have hcell := cell_lit (w := wi.alloc (.cells #[.int .i64 (v : Int), .int .i64 (x : Int)] 3)) (g := wi.heap.size + 1) (e := 24) (y := .slice (some ⟨wi.heap.size, 0, none⟩) 2 2) (by simp)
              have hap := new_apart hown (Nat.le_refl _)
              have hsz2 := hb2.size
              go_wp2_with (first | (go_at_call 112; refine (has_eq (by omega) (by omega) H1.out).mono ?_; rintro e w' ⟨rfl, rfl⟩) | (at_builtin; refine wpList_pushS rfl (.tmp 31) (.tmp 35) rfl ((some ⟨wi.heap.size, 0, none⟩, 2), [(v : Int), (x : Int)]) rfl ((hown.alloc _).alloc _) ⟨wi.heap.size + 1, 0, none⟩ rfl hcell hrow (fun q hq j hj e => hap q hq j hj e) (by omega) (by simp; omega) ?_; intro A7 c7 w7 hown7 hg7 hb7))
              go_roundw
              case rel =>
                exact ⟨x + 1, A7, c7, qs ++ [((some ⟨wi.heap.size, 0, none⟩, 2), [(v : Int), (x : Int)])], by omega, by omega, by go_num, by rw [snoc_lenS], by rw [snoc_lenS]; exact hown7, by rw [List.map_append]; exact HN.out, ((hb2.alloc (by omega) _).alloc (by simp; omega) _).trans hb7⟩
              case measure => simp [intOf]; omega
            · have H1 := Lib.hid (show r.testBit x = false by rw [Hr.out]; exact e1)
              have HN := Lib.hid (show qs.map Prod.snd = (edgK Q n v ++ edgV Q v (x + 1)).map row2 by rw [hqs.out, edgV_no e1])
              clear e1
              go_wp2_with (go_at_call 112; refine (has_eq (by omega) (by omega) H1.out).mono ?_; rintro e w' ⟨rfl, rfl⟩)
              go_roundw
              case rel => exact ⟨x + 1, A2, c2, qs, by omega, by omega, by go_num, rfl, hown, HN.out, hb2⟩
              case measure => simp [intOf]; omega
          · obtain rfl : x = n := by omega
            go_wp2
            go_roundw
            case rel => exact ⟨v + 1, A2, c2, qs, by omega, by go_num, rfl, hown, hqs.out, hb2⟩
            case measure => simp [intOf]; omega
      · obtain rfl : v = n := by omega
        have HP := Lib.hid (show ps.map Prod.snd = R.map row2 by rw [hps.out, HR.out])
        go_wp2
        go_ret
        exact ⟨A', c', ps, HP.out, rfl, hown.more (by omega), hUo⟩
end Go.Proofs.YthncdjcmlpiebaaGreat
namespace Go.Proofs.YthncdjcmlpiebaaGreat
open Go.RowKit
set_option maxRecDepth 100000 in
theorem edg_at {R : List (Nat × Nat)} {ps : List RowP} (h : ps.map Prod.snd = R.map row2) {k : Nat} {p : RowP} (hp : ps[k]? = some p) : ∃ q, R[k]? = some q ∧ p.2 = row2 q := by
  have h1 : (ps.map Prod.snd)[k]? = some p.2 := by rw [List.getElem?_map, hp]; rfl
  rw [h, List.getElem?_map] at h1
  rcases hq : R[k]? with _ | q
  · rw [hq] at h1; cases h1
  · rw [hq] at h1
    injection h1 with h1
    exact ⟨q, rfl, h1.symm⟩
set_option maxRecDepth 100000 in
theorem bandE_take {o : List Nat} {R : List (Nat × Nat)} {k : Nat} {q : Nat × Nat} (h : R[k]? = some q) : bandE o (R.take (k + 1)) = max (bandE o (R.take k)) (gap o q) := by
  obtain ⟨hk, rfl⟩ := List.getElem?_eq_some_iff.1 h
  rw [List.take_succ_eq_append_getElem hk, bandE_snoc]
set_option maxRecDepth 100000 in
set_option maxHeartbeats 2000000 in
theorem implBandOf_any (N : Int) (A B : Option Addr) (n c m d : Nat) (X l : List Int) (w : World) (hX : RI w A n X) (hL : RI w B m l) (hn : n ≤ 1048576) (hm : m ≤ 1048576) (hmd : m ≤ d) :
    Calls Tryz.prog 21 #[.agg #[.int .i64 N, .slice A n c], .slice B m d] w fun e w' => e = .returned (.int .i64 (bandOf N X l)) ∧ Below w.heap.size w w' := by
  have hbk := Blk.new w 26 #[.int .i64 N, .slice A n c]
  have hyb := hbk.two
  rcases isOrder_cases N X l with hg | ⟨hg, k, Q, o, rfl, rfl, rfl, h, ho, hol⟩
  · have H1 := Lib.hid hg
    have HR := Lib.hid (bandOf_no hg)
    rw [HR.out]
    clear hg
    go_enter Tryz.func21, Tryz.ntmps21
    go_wp2_with fail
    refine (implIsOrder_is (hX.up (by go_grown)) (hL.up (by go_grown)) (by omega) (by omega) hmd H1.out).mono ?_
    rintro e w1 ⟨rfl, hb1⟩
    have hU1 : Up w w1 := Up.then_ (by go_grown) hb1
    go_wp2
    go_ret
    exact ⟨rfl, hU1⟩
  · have e1 : n = k := by have := hX.1; rw [ints_len, h.len] at this; exact this.symm
    have e2 : m = k := by have := hL.1; rw [ints_len, hol] at this; exact this.symm
    subst e1 e2
    have H1 := Lib.hid hg
    have HR := Lib.hid (show bandOf m (ints Q) (ints o) = ((bandE o (edges Q m) : Nat) : Int) by rw [bandOf_ok hg, hol, band_eq h ho hol])
    have h7 := h.le
    obtain ⟨R, hR⟩ : ∃ R, R = edges Q m := ⟨_, rfl⟩
    have HE := Lib.hid (show edgesOf m (ints Q) = R by rw [edgesOf_ok h, hR])
    have Hmem := Lib.hid (fun (j : Nat) (q : Nat × Nat) (hq : R[j]? = some q) => (by
      have := mem_edgK.1 (show q ∈ edgK Q m m by rw [show edgK Q m m = R from hR.symm]; exact List.mem_of_getElem? hq)
      exact ⟨by omega, by omega, by omega⟩ : q.1 < m ∧ q.2 < m ∧ q.1 ≠ q.2))
    have Hgap := Lib.hid (fun (j : Nat) (q : Nat × Nat) (hq : R[j]? = some q) => (gap_lt ho hol (show q ∈ edges Q m by rw [← hR]; exact List.mem_of_getElem? hq)))
    have Hpl := Lib.hid (fun v (hv : v < m) => (⟨idxZ_place (ho.all hol hv) ho, by have := place_lt (ho.all hol hv); omega⟩ : idxZ (ints o) (v : Int) = (place o v : Nat) ∧ place o v < m))
    have Hb := Lib.hid (fun j => (bandE_le (o := o) (l := R.take j) (b := m) fun p hp => by
      have := gap_lt ho hol (show p ∈ edges Q m by rw [← hR]; exact List.mem_of_mem_take hp)
      omega))
    have hR49 : R.length ≤ 49 := by rw [hR]; exact edges_len Q h7
    rw [← hR] at HR
    rw [HR.out]
    clear hg hR HR
    go_enter Tryz.func21, Tryz.ntmps21
    go_wp2_with fail
    refine (implIsOrder_is (hX.up (by go_grown)) (hL.up (by go_grown)) (by omega) (by omega) hmd H1.out).mono ?_
    rintro e w1 ⟨rfl, hb1⟩
    have hU1 : Up w w1 := Up.then_ (by go_grown) hb1
    replace hX := hX.up hU1
    replace hL := hL.up hU1
    have hyb1 := (hbk.up hb1).two
    have He := Lib.hid ((implEdgesOf_any m A m c (ints Q) w1 hX (by omega)).mono fun _ _ h => (by rw [HE.out] at h; exact h : GivesS (R.map row2) w1 _ _))
    go_wp2_with (go_at_call 78; refine He.out.mono ?_; rintro e w2 ⟨A2, c2, ps, hps, rfl, hown, hb2⟩; have Hps := Lib.hid hps; clear hps He)
    have hU2 := Up.then_ hU1 hb2
    have hL2 := hL.up hb2
    have Hlen := Lib.hid (show ps.length = R.length by have := congrArg List.length Hps.out; simpa using this)
    have hl49 : ps.length ≤ 49 := by rw [Hlen.out]; exact hR49
    go_loopw [5, 17] (fun s i wr => ∃ k : Nat, k ≤ ps.length ∧ i = .int .i64 k ∧ s = .int .i64 (bandE o (R.take k) : Nat) ∧ Up w2 wr) (fun _ i _ => ps.length - (intOf i).toNat)
    case atStart => exact ⟨0, Nat.zero_le _, rfl, rfl, Up.refl _⟩
    case round =>
      obtain ⟨k, hk, rfl, rfl, hb⟩ := hrel
      obtain ⟨wo, rfl⟩ : ∃ wo : World, wo = wr := ⟨_, rfl⟩
      by_cases hkl : k < ps.length
      · obtain ⟨g, p, rfl, hpk, hcp, hrow⟩ := (hown.up hb).at_ hkl
        obtain ⟨q, hqk, hpq⟩ := edg_at Hps.out hpk
        have hmq := Hmem.out k q hqk
        have HS := Lib.hid (bandE_take (o := o) hqk)
        have hgq := Hgap.out k q hqk
        have p1 := Hpl.out q.1 hmq.1
        have p2 := Hpl.out q.2 hmq.2.1
        have hbb := Hb.out k
        obtain ⟨v, x⟩ := q
        obtain ⟨⟨Bp, cp⟩, lp⟩ := p
        obtain rfl : lp = [(v : Int), (x : Int)] := hpq
        dsimp only at hmq hrow p1 p2 hgq
        have hcp2 : wo.cell? ⟨g, k, none⟩ = some (.slice Bp 2 cp) := by rw [add_0_] at hcp; exact hcp
        obtain ⟨gb, rfl⟩ := hrow.form (by simp)
        have c0 : wo.cell? ⟨gb, 0, none⟩ = some (.int .i64 (v : Int)) := by
          obtain ⟨_, e0, _, c0⟩ := hrow.ri.at_ (k := 0) (by simp)
          injection e0 with e0
          subst e0
          exact c0
        have c1 : wo.cell? ⟨gb, 1, none⟩ = some (.int .i64 (x : Int)) := by
          obtain ⟨_, e0, _, c0⟩ := hrow.ri.at_ (k := 1) (by simp)
          injection e0 with e0
          subst e0
          exact c0
        have hgap : gap o (v, x) = (place o v - place o x) + (place o x - place o v) := rfl
        rw [hgap] at HS hgq
        obtain ⟨i, hi⟩ : ∃ i, i = place o v := ⟨_, rfl⟩
        obtain ⟨j, hj⟩ : ∃ j, j = place o x := ⟨_, rfl⟩
        rw [← hi] at HS hgq p1
        rw [← hj] at HS hgq p2
        have P1 := Lib.hid p1.1
        have P2 := Lib.hid p2.1
        have hir := p1.2
        have hjr := p2.2
        have hLo := hL2.up hb
        obtain ⟨y, hy⟩ : ∃ y, y = bandE o (R.take k) := ⟨_, rfl⟩
        rw [← hy] at HS hbb ⊢
        have hvx : (v : Int) ≠ (x : Int) := by omega
        clear p1 p2 hi hj hgap hcp hrow hpk hqk hy
        go_wp2_with fail
        go_quiet ((first | (go_at_call_of 79 (Value.int .i64 (v : Int)); exact Calls.quiet_of_same (slIndex_is hLo (by omega) P1.out)) | (go_at_call_of 79 (Value.int .i64 (x : Int)); exact Calls.quiet_of_same (slIndex_is hLo (by omega) P2.out))))
        have s1 : wrap64 ((i : Int) - (j : Int)) = (i : Int) - (j : Int) := IntWalk.wrap64_in _ ⟨by omega, by omega⟩
        have s2 : wrap64 ((j : Int) - (i : Int)) = (j : Int) - (i : Int) := IntWalk.wrap64_in _ ⟨by omega, by omega⟩
        have HM := Lib.hid (show (if (if (y : Int) < (i : Int) - (j : Int) then (i : Int) - (j : Int) else (y : Int)) < (j : Int) - (i : Int) then (j : Int) - (i : Int) else if (y : Int) < (i : Int) - (j : Int) then (i : Int) - (j : Int) else (y : Int)) = ((max y (i - j + (j - i)) : Nat) : Int) by
          repeat' split
          all_goals omega)
        go_wp2_with fail
        go_roundw
        case rel => exact ⟨k + 1, by omega, by go_num, by rw [HS.out, HM.out], below_drewN hb _⟩
        case measure => simp [intOf]; omega
      · obtain rfl : k = ps.length := by omega
        have HT := Lib.hid (show R.take ps.length = R by rw [Hlen.out, List.take_length])
        rw [HT.out]
        go_wp2
        go_ret
        exact ⟨rfl, Up.then_ hU2 hb⟩
set_option maxRecDepth 100000 in
set_option maxHeartbeats 2000000 in
theorem specBandOf_any (N : Int) (A B : Option Addr) (n c m d : Nat) (X l : List Int) (w : World) (hX : RI w A n X) (hL : RI w B m l) (hn : n ≤ 1048576) (hm : m ≤ 1048576) :
    Calls Tryz.prog 28 #[.agg #[.int .i64 N, .slice A n c], .slice B m d] w fun e w' => e = .returned (.int .i64 (bandOf N X l)) ∧ Below w.heap.size w w' := by
  have hbk := Blk.new w 26 #[.int .i64 N, .slice A n c]
  rcases isOrder_cases N X l with hg | ⟨hg, k, Q, o, rfl, rfl, rfl, h, ho, hol⟩
  · have H1 := Lib.hid hg
    have HR := Lib.hid (bandOf_no hg)
    rw [HR.out]
    clear hg
    go_enter Tryz.func28, Tryz.ntmps28
    go_wp2_with fail
    refine (specIsOrder_is (hX.up (by go_grown)) (hL.up (by go_grown)) (by omega) (by omega) H1.out).mono ?_
    rintro e w1 ⟨rfl, hb1⟩
    have hU1 : Up w w1 := Up.then_ (by go_grown) hb1
    go_wp2
    go_ret
    exact ⟨rfl, hU1⟩
  · have e1 : n = k := by have := hX.1; rw [ints_len, h.len] at this; exact this.symm
    have e2 : m = k := by have := hL.1; rw [ints_len, hol] at this; exact this.symm
    subst e1 e2
    have H1 := Lib.hid hg
    have HR := Lib.hid (show bandOf m (ints Q) (ints o) = ((bandI Q o m : Nat) : Int) by rw [bandOf_ok hg, hol])
    have h7 := h.le
    have Hn := Lib.hid (fun i (hi : i < m) => ho.at_ (j := i) (by omega))
    have Hb := Lib.hid (fun i (hi : i ≤ m) => ((bandI_spec Q o m i).2 fun a _ b _ _ => by omega : bandI Q o i ≤ m))
    have HbJ := Lib.hid (fun i (hi : i < m) k (hk : k ≤ i) => ((bandJ_spec Q o i (bandI Q o i) m k).2 ⟨(bandI_spec Q o m i).2 fun a _ b _ _ => by omega, fun j _ _ => by omega⟩ : bandJ Q o i (bandI Q o i) k ≤ m))
    rw [HR.out]
    clear hg HR
    obtain ⟨a, rfl, _, _⟩ := hX.addr h.pos
    obtain ⟨bd, rfl, _, _⟩ := hL.addr h.pos
    go_enter Tryz.func28, Tryz.ntmps28
    go_wp2_with fail
    refine (specIsOrder_is (hX.up (by go_grown)) (hL.up (by go_grown)) (by omega) (by omega) H1.out).mono ?_
    rintro e w1 ⟨rfl, hb1⟩
    have hU1 : Up w w1 := Up.then_ (by go_grown) hb1
    replace hX := hX.up hU1
    replace hL := hL.up hU1
    have hbk1 := hbk.up hb1
    go_wp2_with fail
    go_loopw [5, 6] (fun s i wr => ∃ k : Nat, k ≤ m ∧ i = .int .i64 k ∧ s = .int .i64 (bandI Q o k : Nat) ∧ Up w1 wr) (fun _ i _ => m - (intOf i).toNat)
    case atStart => exact ⟨0, Nat.zero_le _, rfl, rfl, Up.refl _⟩
    case round =>
      obtain ⟨i, hi, rfl, rfl, hb⟩ := hrel
      obtain ⟨wo, rfl⟩ : ∃ wo : World, wo = wr := ⟨_, rfl⟩
      by_cases him : i < m
      · have HI := Lib.hid (show bandI Q o (i + 1) = bandJ Q o i (bandI Q o i) i from rfl)
        have HbJi := Lib.hid (HbJ.out i him)
        obtain ⟨y, hy⟩ : ∃ y, y = bandI Q o i := ⟨_, rfl⟩
        rw [← hy] at HI HbJi ⊢
        clear hy
        go_wp2_with fail
        go_loopw [5, 7] (fun s j wr => ∃ k : Nat, k ≤ i ∧ j = .int .i64 k ∧ s = .int .i64 (bandJ Q o i y k : Nat) ∧ Up w1 wr) (fun _ j _ => i - (intOf j).toNat)
        case atStart => exact ⟨0, Nat.zero_le _, rfl, rfl, hb⟩
        case round =>
          obtain ⟨j, hj, rfl, rfl, hb2⟩ := hrel
          obtain ⟨wi, rfl⟩ : ∃ wi : World, wi = wr := ⟨_, rfl⟩
          by_cases hji : j < i
          · have hjm : j < m := by omega
            have hXi := hX.up hb2
            have hLi := hL.up hb2
            have hyi := (hbk1.up hb2).two
            have hli := (hbk1.up hb2).lt
            have hc1 := hLi.nbs him
            have hc2 := hLi.nbs (show j < m by omega)
            have habs : bd.block < wi.heap.size := by obtain ⟨_, e, h1, _⟩ := hLi.addr (by omega); injection e with e; subst e; exact h1
            have hv1 := Hn.out i him
            have hv2 := Hn.out j (by omega)
            have hbj := HbJi.out j hj
            have HS := Lib.hid (show bandJ Q o i y (j + 1) = if edge Q (nb o i) (nb o j) then max (bandJ Q o i y j) (i - j) else bandJ Q o i y j from rfl)
            obtain ⟨z, hz⟩ : ∃ z, z = bandJ Q o i y j := ⟨_, rfl⟩
            rw [← hz] at HS hbj ⊢
            clear hz
            rcases Bool.eq_false_or_eq_true (edge Q (nb o i) (nb o j)) with e1 | e1
            · have E1 := Lib.hid (show (nb Q (nb o i)).testBit (nb o j) = true from e1)
              rw [e1, if_pos rfl] at HS
              clear e1
              have s1 : wrap64 ((i : Int) - (j : Int)) = (i : Int) - (j : Int) := IntWalk.wrap64_in _ ⟨by omega, by omega⟩
              have HM := Lib.hid (show (if (z : Int) < (i : Int) - (j : Int) then (i : Int) - (j : Int) else (z : Int)) = ((max z (i - j) : Nat) : Int) by split <;> omega)
              go_wp2
              have hV0 : Up wi wi.drew := (Up.refl _).drew
              refine wp_region_calm (S := (fun w' => Up wi w' ∧ (∀ b o, b < wi.heap.size → w'.cell? ⟨b, o, none⟩ = wi.cell? ⟨b, o, none⟩) ∧ w'.cell? (bd.add i) = some (.int .i64 (nb o i)) ∧ w'.cell? (bd.add j) = some (.int .i64 (nb o j)))) (by kernel_rfl) (by kernel_rfl) (by exact ⟨hV0, fun _ _ hb => hV0.cell hb, (hV0.cell (by first | assumption | (rw [block_of_add]; assumption))).trans (by assumption), (hV0.cell (by first | assumption | (rw [block_of_add]; assumption))).trans (by assumption)⟩) ?_
              repeat (first | (refine CalmSeq.cons undef (Calm.off (by rfl)) ?_; (try simp only [Act.put, List.setIfInBounds_toArray, List.set_cons_zero, List.set_cons_succ])) | (refine CalmSeq.cons ?_ (Calm.val (by rfl) ?_) ?_; rotate_left; (intro wC hSw; (try dsimp only at hSw); go_simp; done); (try simp only [Act.put, List.setIfInBounds_toArray, List.set_cons_zero, List.set_cons_succ])) | (refine CalmSeq.cons ?_ (Calm.val (by rfl) ?_) ?_; rotate_left; (intro wC hSw; (try dsimp only at hSw); go_simp; with_reducible rfl); (try simp only [Act.put, List.setIfInBounds_toArray, List.set_cons_zero, List.set_cons_succ])) | ((refine CalmSeq.cons ?_ (Calm.call (f := ?_) (args := ?_) (by rfl) ?_ (fun wC hSw => ?_)) ?_; rotate_left 3; (intro wC; go_simp; (refine ⟨?_, ?_⟩ <;> with_reducible rfl)); (go_at_call 69; (with_reducible refine (l2Edge_is (hXi.up hSw.1) h hv1 hv2 E1.out).mono ?_); rintro e wD ⟨rfl, hbD⟩; apply And.intro; (with_reducible rfl); (have hUD := Up.then_ hSw.1 hbD; exact ⟨hUD, fun _ _ hb => hUD.cell hb, (hUD.cell (by first | assumption | (rw [block_of_add]; assumption))).trans (by assumption), (hUD.cell (by first | assumption | (rw [block_of_add]; assumption))).trans (by assumption)⟩))); (try simp only [Act.put, List.setIfInBounds_toArray, List.set_cons_zero, List.set_cons_succ])))
              intro w2 hS2
              have hU2 : Up wi w2 := hS2.1
              clear hS2 hV0
              go_wp2
              go_roundw
              case rel => exact ⟨j + 1, by omega, by go_num, by rw [HS.out, HM.out], Up.then_ hb2 hU2⟩
              case measure => simp [intOf]; omega
            · have E1 := Lib.hid (show (nb Q (nb o i)).testBit (nb o j) = false from e1)
              rw [e1, if_neg Bool.false_ne_true] at HS
              clear e1
              go_wp2
              have hV0 : Up wi wi.drew := (Up.refl _).drew
              refine wp_region_calm (S := (fun w' => Up wi w' ∧ (∀ b o, b < wi.heap.size → w'.cell? ⟨b, o, none⟩ = wi.cell? ⟨b, o, none⟩) ∧ w'.cell? (bd.add i) = some (.int .i64 (nb o i)) ∧ w'.cell? (bd.add j) = some (.int .i64 (nb o j)))) (by kernel_rfl) (by kernel_rfl) (by exact ⟨hV0, fun _ _ hb => hV0.cell hb, (hV0.cell (by first | assumption | (rw [block_of_add]; assumption))).trans (by assumption), (hV0.cell (by first | assumption | (rw [block_of_add]; assumption))).trans (by assumption)⟩) ?_
              repeat (first | (refine CalmSeq.cons undef (Calm.off (by rfl)) ?_; (try simp only [Act.put, List.setIfInBounds_toArray, List.set_cons_zero, List.set_cons_succ])) | (refine CalmSeq.cons ?_ (Calm.val (by rfl) ?_) ?_; rotate_left; (intro wC hSw; (try dsimp only at hSw); go_simp; done); (try simp only [Act.put, List.setIfInBounds_toArray, List.set_cons_zero, List.set_cons_succ])) | (refine CalmSeq.cons ?_ (Calm.val (by rfl) ?_) ?_; rotate_left; (intro wC hSw; (try dsimp only at hSw); go_simp; with_reducible rfl); (try simp only [Act.put, List.setIfInBounds_toArray, List.set_cons_zero, List.set_cons_succ])) | ((refine CalmSeq.cons ?_ (Calm.call (f := ?_) (args := ?_) (by rfl) ?_ (fun wC hSw => ?_)) ?_; rotate_left 3; (intro wC; go_simp; (refine ⟨?_, ?_⟩ <;> with_reducible rfl)); (go_at_call 69; (with_reducible refine (l2Edge_is (hXi.up hSw.1) h hv1 hv2 E1.out).mono ?_); rintro e wD ⟨rfl, hbD⟩; apply And.intro; (with_reducible rfl); (have hUD := Up.then_ hSw.1 hbD; exact ⟨hUD, fun _ _ hb => hUD.cell hb, (hUD.cell (by first | assumption | (rw [block_of_add]; assumption))).trans (by assumption), (hUD.cell (by first | assumption | (rw [block_of_add]; assumption))).trans (by assumption)⟩))); (try simp only [Act.put, List.setIfInBounds_toArray, List.set_cons_zero, List.set_cons_succ])))
              intro w2 hS2
              have hU2 : Up wi w2 := hS2.1
              clear hS2 hV0
              go_wp2
              go_roundw
              case rel => exact ⟨j + 1, by omega, by go_num, by rw [HS.out], Up.then_ hb2 hU2⟩
              case measure => simp [intOf]; omega
          · obtain rfl : j = i := by omega
            rw [← HI.out]
            go_wp2
            go_roundw
            case rel => exact ⟨j + 1, by omega, by go_num, rfl, hb2⟩
            case measure => simp [intOf]; omega
      · obtain rfl : i = m := by omega
        go_wp2
        go_ret
        exact ⟨rfl, Up.then_ hU1 hb⟩
end Go.Proofs.YthncdjcmlpiebaaGreat
namespace Go.Proofs.YthncdjcmlpiebaaGreat
open Go.RowKit
set_option maxRecDepth 100000 in
set_option maxHeartbeats 1000000 in
theorem implIsUmbrella_cap (N : Int) (A B : Option Addr) (n c m d : Nat) (X l : List Int) (w : World) (hX : RI w A n X) (hL : RI w B m l) (hn : n ≤ 9223372036854775807) (hm : m ≤ 9223372036854775807) (_hmd : m ≤ d) (_hd : d ≤ 9223372036854775807) :
    Calls Tryz.prog 18 #[.agg #[.int .i64 N, .slice A n c], .slice B m d] w fun e w' => e = .returned (.bool (isUmb N X l)) ∧ Below w.heap.size w w' := by
  rcases isOrder_cases N X l with hg | ⟨hg, k, Q, o, rfl, rfl, rfl, h, ho, hol⟩
  · have HR := Lib.hid (isUmb_no hg)
    have H1 := Lib.hid hg
    clear hg
    go_enter Tryz.func18, Tryz.ntmps18
    go_wp2_with fail
    refine (implIsOrder_is (hX.up (by go_grown)) (hL.up (by go_grown)) hn hm _hmd H1.out).mono ?_
    rintro e w1 ⟨rfl, hb1⟩
    have hU1 : Up w w1 := Up.then_ (by go_grown) hb1
    go_wp2
    go_ret
    exact ⟨ret_bool HR.out.symm, hU1⟩
  · have HR := Lib.hid (isUmb_ok hg)
    have H1 := Lib.hid hg
    have e1 : n = k := by have := hX.1; rw [ints_len, h.len] at this; exact this.symm
    have e2 : m = k := by have := hL.1; rw [ints_len, hol] at this; exact this.symm
    subst e1 e2
    obtain ⟨a, rfl, _, _⟩ := hX.addr h.pos
    obtain ⟨b, rfl, _, _⟩ := hL.addr h.pos
    have hn7 := h.le
    clear hg
    go_enter Tryz.func18, Tryz.ntmps18
    go_wp2_with fail
    refine (implIsOrder_is (hX.up (by go_grown)) (hL.up (by go_grown)) hn hm _hmd H1.out).mono ?_
    rintro e w1 ⟨rfl, hb1⟩
    have hU1 : Up w w1 := Up.then_ (by go_grown) hb1
    replace hX := hX.up hU1
    replace hL := hL.up hU1
    have hblk := (Blk.new w 26 #[.int .i64 m, .slice (some a) m c]).up hb1
    have hyb := hblk.two
    have hlb := hblk.lt
    go_wp2_with fail
    refine (implUmb_any (some a) b m c m d Q o _ hX hL h ho.1 _hmd (by omega) (by omega)).mono ?_
    rintro e w2 ⟨rfl, hb2⟩
    have hU2 : Up w1 w2 := Up.then_ (by go_grown) hb2
    replace hX := hX.up hU2
    replace hL := hL.up hU2
    have hw2 := Up.then_ hU1 hU2
    go_wp2
    go_ret
    exact ⟨ret_bool HR.out.symm, hw2⟩
set_option maxRecDepth 100000 in
set_option maxHeartbeats 1000000 in
theorem specIsUmbrella_cap (N : Int) (A B : Option Addr) (n c m d : Nat) (X l : List Int) (w : World) (hX : RI w A n X) (hL : RI w B m l) (hn : n ≤ 9223372036854775807) (hm : m ≤ 9223372036854775807) (_hmd : m ≤ d) (_hd : d ≤ 9223372036854775807) :
    Calls Tryz.prog 26 #[.agg #[.int .i64 N, .slice A n c], .slice B m d] w fun e w' => e = .returned (.bool (isUmb N X l)) ∧ Below w.heap.size w w' := by
  rcases isOrder_cases N X l with hg | ⟨hg, k, Q, o, rfl, rfl, rfl, h, ho, hol⟩
  · have HR := Lib.hid (isUmb_no hg)
    have H1 := Lib.hid hg
    clear hg
    go_enter Tryz.func26, Tryz.ntmps26
    go_wp2_with fail
    refine (specIsOrder_is (hX.up (by go_grown)) (hL.up (by go_grown)) hn hm H1.out).mono ?_
    rintro e w1 ⟨rfl, hb1⟩
    have hU1 : Up w w1 := Up.then_ (by go_grown) hb1
    go_wp2
    go_ret
    exact ⟨ret_bool HR.out.symm, hU1⟩
  · have HR := Lib.hid (isUmb_ok hg)
    have H1 := Lib.hid hg
    have e1 : n = k := by have := hX.1; rw [ints_len, h.len] at this; exact this.symm
    have e2 : m = k := by have := hL.1; rw [ints_len, hol] at this; exact this.symm
    subst e1 e2
    obtain ⟨a, rfl, _, _⟩ := hX.addr h.pos
    obtain ⟨b, rfl, _, _⟩ := hL.addr h.pos
    have hn7 := h.le
    clear hg
    go_enter Tryz.func26, Tryz.ntmps26
    go_wp2_with fail
    refine (specIsOrder_is (hX.up (by go_grown)) (hL.up (by go_grown)) hn hm H1.out).mono ?_
    rintro e w1 ⟨rfl, hb1⟩
    have hU1 : Up w w1 := Up.then_ (by go_grown) hb1
    replace hX := hX.up hU1
    replace hL := hL.up hU1
    have hblk := (Blk.new w 26 #[.int .i64 m, .slice (some a) m c]).up hb1
    have hyb := hblk.two
    have hlb := hblk.lt
    go_wp2_with fail
    refine (specUmb_any (some a) b m c m d Q o _ hX hL h ho.1 (by omega)).mono ?_
    rintro e w2 ⟨rfl, hb2⟩
    have hU2 : Up w1 w2 := Up.then_ (by go_grown) hb2
    replace hX := hX.up hU2
    replace hL := hL.up hU2
    have hw2 := Up.then_ hU1 hU2
    go_wp2
    go_ret
    exact ⟨ret_bool HR.out.symm, hw2⟩
end Go.Proofs.YthncdjcmlpiebaaGreat
