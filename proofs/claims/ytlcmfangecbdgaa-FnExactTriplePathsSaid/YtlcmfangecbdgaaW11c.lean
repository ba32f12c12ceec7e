/- Walks of chapter 11: the path that avoids a vertex, the reference's. -/
import Derived.Test.YtlcmfangecbdgaaW11b
import Derived.Test.YtlcmfangecbdgaaW7c
namespace Go.Proofs.Ytlcmfangecbdgaa
open Go.RowKit
/-- Where each vertex was met so far: the first v are up to date with step k. -/
def farM (Q : List Nat) (S x n k v : Nat) : List Int := (List.range n).map fun u => if u < v then farK Q S x u (k + 1) else farK Q S x u k
theorem farM_len (Q : List Nat) (S x n k v : Nat) : (farM Q S x n k v).length = n := by simp [farM]
theorem farM_at {Q : List Nat} {S x n k v u : Nat} (h : u < n) : (farM Q S x n k v).getD u 0 = if u < v then farK Q S x u (k + 1) else farK Q S x u k := by simp [farM, List.getD, h]
theorem farM_next (Q : List Nat) (S x n k : Nat) : farM Q S x n k n = farM Q S x n (k + 1) 0 := by
  apply List.map_congr_left
  intro u hu
  rw [if_pos (List.mem_range.1 hu), if_neg (by omega)]
theorem farM_start (Q : List Nat) (S x n : Nat) : farM Q S x n 0 0 = List.replicate n (-1) := by
  apply List.ext_getElem
  · simp [farM]
  · intro i h1 h2
    simp [farM, farK]
theorem farM_keep {Q : List Nat} {S x n k v : Nat} (h : farK Q S x v (k + 1) = farK Q S x v k) : farM Q S x n k (v + 1) = farM Q S x n k v := by
  apply List.map_congr_left
  intro u _
  by_cases e : u = v
  · subst e
    rw [if_pos (by omega), if_neg (by omega), h]
  · by_cases h1 : u < v
    · rw [if_pos h1, if_pos (by omega)]
    · rw [if_neg h1, if_neg (by omega)]
theorem farM_put {Q : List Nat} {S x n k v : Nat} {z : Int} (h : farK Q S x v (k + 1) = z) (_hv : v < n) : (farM Q S x n k v).set v z = farM Q S x n k (v + 1) := by
  apply List.ext_getElem
  · simp [farM]
  · intro i h1 h2
    rw [List.getElem_set]
    simp only [farM, List.getElem_map, List.getElem_range]
    by_cases e : v = i
    · subst e
      rw [if_pos rfl, if_pos (by omega), h]
    · rw [if_neg e]
      by_cases h1 : i < v
      · rw [if_pos h1, if_pos (by omega)]
      · rw [if_neg h1, if_neg (by omega)]
theorem farM_end {Q : List Nat} {S x n u : Nat} (h : u < n) : (farM Q S x n n 0).getD u 0 = farK Q S x u n := by rw [farM_at h, if_neg (by omega)]
theorem givesIB_len {q : List Nat} {m : Nat} {w w' : World} {A : Option Addr} {c base : Nat} (hm : m = q.length) (h : OwnI w' base A m c (ints q)) (hbase : w.heap.size ≤ base) (hb : Below w.heap.size w w') : GivesIB (ints q) true w (.returned (.tuple #[.slice A m c, .bool true])) w' := by
  subst hm; exact givesIB_some h hbase hb
theorem specAround_is {A : Option Addr} {n c s x : Nat} {Q : List Nat} {w : World} (hX : RI w A n (ints Q)) (h : GOk n Q) (hs : s < 2 ^ n) (hx : around Q s = x) :
    Calls Try.prog 52 #[.agg #[.int .i64 n, .slice A n c], .int .i64 s] w fun e w' => e = .returned (.int .i64 (x : Nat)) ∧ Below w.heap.size w w' := by
  subst hx; exact specAround_any A n c s Q w hX h hs
set_option maxRecDepth 100000 in
set_option maxHeartbeats 4000000 in
theorem specAvoidingPath_any (N a b c : Int) (A : Option Addr) (n d : Nat) (X : List Int) (w : World) (hX : RI w A n X) (hn : n ≤ 9223372036854775807) :
    Calls Try.prog 19 #[.agg #[.int .i64 N, .slice A n d], .int .i64 a, .int .i64 b, .int .i64 c] w (GivesIB (optL (avoidOf N X a b c)) (avoidOf N X a b c).isSome w) := by
  have hbk := Blk.new w 27 #[.int .i64 N, .slice A n d]
  rcases avoid_cases N X a b c with ⟨h0, hc⟩ | ⟨m, i, j, k, Q, rfl, rfl, rfl, rfl, rfl, h, hi, hj, hk⟩
  · rw [h0]
    clear h0
    rcases hc with hg | ⟨hg, hout⟩
    · have H1 := Lib.hid hg
      clear hg
      go_enter Try.func19, Try.ntmps19
      go_wp2_with fail
      refine (specIsGraph_is (hX.up (by go_grown)) hn H1.out).mono ?_
      rintro e w1 ⟨rfl, hb1⟩
      have hU1 : Up w w1 := Up.then_ (by go_grown) hb1
      have hown0 := OwnI.made (base := w1.heap.size) w1 (Nat.le_refl _)
      have hww := hU1.alloc hU1.size (.cells #[] 3)
      go_wp2
      go_ret2
      exact givesIB_none hown0 hU1.size hww
    · have H1 := Lib.hid hg
      obtain ⟨m, Q, rfl, rfl, h⟩ := isGraph_ok hg
      have h7 := h.le
      have h1 := h.pos
      have hsub : wrap64 ((m : Int) - 1) = (m : Int) - 1 := IntWalk.wrap64_in _ ⟨by omega, by omega⟩
      clear hg
      by_cases pa : 0 ≤ a ∧ a ≤ (m : Int) - 1
      rotate_left
      · go_enter Try.func19, Try.ntmps19
        go_wp2_with fail
        refine (specIsGraph_is (hX.up (by go_grown)) hn H1.out).mono ?_
        rintro e w1 ⟨rfl, hb1⟩
        have hU1 : Up w w1 := Up.then_ (by go_grown) hb1
        have hyb1 := (hbk.up hb1).two
        have hown0 := OwnI.made (base := w1.heap.size) w1 (Nat.le_refl _)
        have hww := hU1.alloc hU1.size (.cells #[] 3)
        go_wp2_with (go_at_call 51; refine ((l1In_no _ _ _ _ pa).mono fun _ _ h => And.intro h.1 h.2.symm).mono ?_; rintro e w' ⟨rfl, rfl⟩)
        go_ret2
        exact givesIB_none hown0 hU1.size hww
      · by_cases pb : 0 ≤ b ∧ b ≤ (m : Int) - 1
        rotate_left
        · have hab : a ≠ b := fun e => pb (e ▸ pa)
          go_enter Try.func19, Try.ntmps19
          go_wp2_with fail
          refine (specIsGraph_is (hX.up (by go_grown)) hn H1.out).mono ?_
          rintro e w1 ⟨rfl, hb1⟩
          have hU1 : Up w w1 := Up.then_ (by go_grown) hb1
          have hyb1 := (hbk.up hb1).two
          have hown0 := OwnI.made (base := w1.heap.size) w1 (Nat.le_refl _)
          have hww := hU1.alloc hU1.size (.cells #[] 3)
          go_wp2_with (first | (go_at_call_of 51 (Value.int .i64 a); refine (l1In_eq pa).mono ?_; rintro e w' ⟨rfl, rfl⟩) | (go_at_call_of 51 (Value.int .i64 b); refine ((l1In_no _ _ _ _ pb).mono fun _ _ h => And.intro h.1 h.2.symm).mono ?_; rintro e w' ⟨rfl, rfl⟩))
          go_ret2
          exact givesIB_none hown0 hU1.size hww
        · have pc : ¬ (0 ≤ c ∧ c ≤ (m : Int) - 1) := fun pc => hout ⟨⟨pa.1, by omega⟩, ⟨pb.1, by omega⟩, pc.1, by omega⟩
          go_enter Try.func19, Try.ntmps19
          go_wp2_with fail
          refine (specIsGraph_is (hX.up (by go_grown)) hn H1.out).mono ?_
          rintro e w1 ⟨rfl, hb1⟩
          have hU1 : Up w w1 := Up.then_ (by go_grown) hb1
          have hyb1 := (hbk.up hb1).two
          have hown0 := OwnI.made (base := w1.heap.size) w1 (Nat.le_refl _)
          have hww := hU1.alloc hU1.size (.cells #[] 3)
          go_wp2_with (first | (go_at_call_of 51 (Value.int .i64 a); refine (l1In_eq pa).mono ?_; rintro e w' ⟨rfl, rfl⟩) | (go_at_call_of 51 (Value.int .i64 b); refine (l1In_eq pb).mono ?_; rintro e w' ⟨rfl, rfl⟩) | (go_at_call_of 51 (Value.int .i64 c); refine ((l1In_no _ _ _ _ pc).mono fun _ _ h => And.intro h.1 h.2.symm).mono ?_; rintro e w' ⟨rfl, rfl⟩))
          go_ret2
          exact givesIB_none hown0 hU1.size hww
  · obtain rfl : n = m := by rw [← hX.1, ints_len, h.len]
    rw [avoidOf_ok h hi hj hk]
    have h7 := h.le
    have h1 := h.pos
    have H1 := Lib.hid h.is
    have hsub : wrap64 ((n : Int) - 1) = (n : Int) - 1 := IntWalk.wrap64_in _ ⟨by omega, by omega⟩
    have pa : 0 ≤ (i : Int) ∧ (i : Int) ≤ (n : Int) - 1 := ⟨by omega, by omega⟩
    have pb : 0 ≤ (j : Int) ∧ (j : Int) ≤ (n : Int) - 1 := ⟨by omega, by omega⟩
    have pc : 0 ≤ (k : Int) ∧ (k : Int) ≤ (n : Int) - 1 := ⟨by omega, by omega⟩
    have hsk := shl_p2 (k := k) (by omega)
    have hsn := shl_p2 (k := n) (by omega)
    have hskI : IntKind.i64.wrap ((2 : Int) ^ k) = ((p2 k : Nat) : Int) := by rw [IntWalk.i64_left]; exact hsk
    have hsnI : IntKind.i64.wrap ((2 : Int) ^ n) = ((p2 n : Nat) : Int) := by rw [IntWalk.i64_left]; exact hsn
    have hpn := p2_le h7
    have hpk : p2 k < 2 ^ n := Nat.pow_lt_pow_right (by omega) hk
    have haw := away_ref h hk
    have hSl := awayS_lt Q n k
    have hS7 := h.n7 hSl
    obtain ⟨S, hS⟩ : ∃ S, S = awayS Q n k := ⟨_, rfl⟩
    rw [← hS] at haw hSl hS7 ⊢
    obtain ⟨R0, hR0⟩ : ∃ R0, R0 = around Q (2 ^ k) := ⟨_, rfl⟩
    have HR0 := Lib.hid (show around Q (p2 k) = R0 from hR0.symm)
    rw [← hR0] at haw
    have haw2 : S + R0 = p2 n - 1 := haw
    have hp1 := p2_pos n
    have hsu1 : wrap64 ((p2 n : Int) - 1) = (p2 n : Int) - 1 := IntWalk.wrap64_in _ ⟨by omega, by omega⟩
    have hsu2 : wrap64 ((p2 n : Int) - 1 - (R0 : Int)) = (S : Int) := by rw [IntWalk.wrap64_in _ ⟨by omega, by omega⟩]; omega
    have hsu1I : IntKind.i64.wrap ((p2 n : Int) - 1) = (p2 n : Int) - 1 := by rw [IntKind.wrap_i64]; omega
    have hsu2I : IntKind.i64.wrap ((p2 n : Int) - 1 - (R0 : Int)) = (S : Int) := by rw [IntKind.wrap_i64]; omega
    clear hS hR0 haw haw2
    obtain ⟨aX, rfl, _, _⟩ := hX.addr h.pos
    go_enter Try.func19, Try.ntmps19
    go_wp2_with fail
    refine (specIsGraph_is (hX.up (by go_grown)) hn H1.out).mono ?_
    rintro e w1 ⟨rfl, hb1⟩
    have hU1 : Up w w1 := Up.then_ (by go_grown) hb1
    replace hX := hX.up hU1
    have hbk1 := hbk.up hb1
    have hyb1 := hbk1.two
    have hlb1 := hbk1.lt
    go_wp2_with (first | (go_at_call_of 51 (Value.int .i64 (i : Int)); refine (l1In_eq pa).mono ?_; rintro e w' ⟨rfl, rfl⟩) | (go_at_call_of 51 (Value.int .i64 (j : Int)); refine (l1In_eq pb).mono ?_; rintro e w' ⟨rfl, rfl⟩) | (go_at_call_of 51 (Value.int .i64 (k : Int)); refine (l1In_eq pc).mono ?_; rintro e w' ⟨rfl, rfl⟩))
    go_wp2
    have hV0 : Up w1 w1.drew := (Up.refl _).drew
    refine wp_region_calm (S := (fun w' => Up w1 w' ∧ (∀ b o, b < w1.heap.size → w'.cell? ⟨b, o, none⟩ = w1.cell? ⟨b, o, none⟩))) (by kernel_rfl) (by kernel_rfl) (by exact ⟨hV0, fun _ _ hb => hV0.cell hb⟩) ?_
    repeat (first | (refine CalmSeq.cons undef (Calm.off (by rfl)) ?_; (try simp only [Act.put, List.setIfInBounds_toArray, List.set_cons_zero, List.set_cons_succ])) | (refine CalmSeq.cons ?_ (Calm.val (by rfl) ?_) ?_; rotate_left; (intro wC hSw; (try dsimp only at hSw); go_simp; done); (try simp only [Act.put, List.setIfInBounds_toArray, List.set_cons_zero, List.set_cons_succ])) | (refine CalmSeq.cons ?_ (Calm.val (by rfl) ?_) ?_; rotate_left; (intro wC hSw; (try dsimp only at hSw); go_simp; with_reducible rfl); (try simp only [Act.put, List.setIfInBounds_toArray, List.set_cons_zero, List.set_cons_succ])) | ((refine CalmSeq.cons ?_ (Calm.call (f := ?_) (args := ?_) (by rfl) ?_ (fun wC hSw => ?_)) ?_; rotate_left 3; (intro wC; go_simp; (refine ⟨?_, ?_⟩ <;> with_reducible rfl)); (go_at_call 52; (with_reducible refine (specAround_is (hX.up hSw.1) h hpk HR0.out).mono ?_); rintro e wD ⟨rfl, hbD⟩; apply And.intro; (with_reducible rfl); (have hUD := Up.then_ hSw.1 hbD; exact ⟨hUD, fun _ _ hb => hUD.cell hb⟩))); (try simp only [Act.put, List.setIfInBounds_toArray, List.set_cons_zero, List.set_cons_succ])))
    intro w2 hS2
    have hU2 : Up w1 w2 := hS2.1
    clear hS2 hV0
    replace hX := hX.up hU2
    have hbi := bit_zero S i (by omega)
    have hbj := bit_zero S j (by omega)
    have hown2 := OwnI.made (base := w2.heap.size) w2 (Nat.le_refl _)
    have hw2 := Up.then_ hU1 hU2
    have hww := hw2.alloc hw2.size (.cells #[] 3)
    clear hsu1 hsu2 hsu1I hsu2I hsk hsn hskI hsnI
    rcases Bool.eq_false_or_eq_true (S.testBit i) with ei | ei
    rotate_left
    · have HW := Lib.hid (wayOf_out (Q := Q) (n := n) (S := S) (a := i) (b := j) (.inl ei))
      rw [ei] at hbi
      go_wp2
      go_ret2
      rw [HW.out]
      exact givesIB_none hown2 hw2.size hww
    rcases Bool.eq_false_or_eq_true (S.testBit j) with ej | ej
    rotate_left
    · have HW := Lib.hid (wayOf_out (Q := Q) (n := n) (S := S) (a := i) (b := j) (.inr ej))
      rw [ei] at hbi
      rw [ej] at hbj
      go_wp2
      go_ret2
      rw [HW.out]
      exact givesIB_none hown2 hw2.size hww
    rw [ei] at hbi
    rw [ej] at hbj
    have hsb := bit_sub ej
    have HGt := Lib.hid (fun k => grow_lt (Q := Q) hSl hsb k)
    have HLt := Lib.hid (fun k => lay_lt (Q := Q) hSl hsb k)
    have HFar := Lib.hid (wayOf_far (Q := Q) (n := n) (S := S) (a := i) (b := j) h1 ej)
    have HYes := Lib.hid (fun d hd => wayOf_some (Q := Q) (n := n) (S := S) (a := i) (b := j) (d := d) h7 hSl ei ej hd)
    have HBit := Lib.hid (fun k v => testBit_lay (Q := Q) (k := k) (v := v) hsb)
    have HIff := Lib.hid (fun v k d hd => farK_iff (Q := Q) (v := v) (k := k) (d := d) hsb hd)
    have HSt := Lib.hid (fun d u hu => lay_step h hSl hsb (d := d) (u := u) hu)
    have HNe := Lib.hid (fun d u hu => lay_nonempty h hSl hsb (d := d) (u := u) hu)
    have H128 := Lib.hid (fun s (hs : s < 2 ^ n) => h.n7 hs)
    have hshj := shl_p2 (k := j) (by omega)
    have hbk2 := hbk1.up hU2
    have hzb2 := fun o => (hbk2.alloc o).two
    have hXw2 := Lib.hid hX
    have hb20 : Below w2.heap.size w2 (w2.alloc (.cells #[] 3)) := by go_grown
    clear ei ej hsb hyb1
    go_wp2_with fail
    clear hbi hbj
    go_loopw [11, 12] (fun s i wr => ∃ (v : Nat) (A' : Option Addr) (c' : Nat), v ≤ n ∧ i = .int .i64 v ∧ s = .slice A' v c' ∧ OwnI wr w2.heap.size A' v c' (List.replicate v (-1)) ∧ Below w2.heap.size w2 wr) (fun _ i _ => n - (intOf i).toNat)
    case atStart => exact ⟨0, _, _, Nat.zero_le _, rfl, rfl, hown2, hb20⟩
    case round =>
      clear hown2 hb20 hzb2
      obtain ⟨v, A', c', hv, rfl, rfl, hown, hb⟩ := hrel
      obtain ⟨wo, rfl⟩ : ∃ wo : World, wo = wr := ⟨_, rfl⟩
      have hyo := (hbk2.up hb).two
      by_cases hvn : v < n
      · have hcell := (Blk.new wo 3 #[.int .i64 (-1)]).one
        have hsz := hb.size
        go_wp2_with (at_builtin; refine wpList_push rfl (.tmp 76) (.tmp 77) rfl (-1) rfl (hown.alloc _) ⟨wo.heap.size, 0, none⟩ rfl hcell (by omega) (by simp; omega) ?_; intro A7 c7 w7 hown7 hb7 hg7)
        go_roundw
        case rel => exact ⟨v + 1, A7, c7, by omega, by go_num, rfl, hown7.cast rfl (by rw [List.replicate_succ']), (hb.alloc hsz _).trans hb7⟩
        case measure => simp [intOf]; omega
      · obtain rfl : v = n := by omega
        have HF := Lib.hid (farM_start Q S (2 ^ j) v)
        rw [← HF.out] at hown
        obtain ⟨gf, rfl⟩ := hown.form (by omega)
        have HG0 := Lib.hid (show grow Q S (2 ^ j) 0 = p2 j from rfl)
        clear HF
        go_wp2_with fail
        rw [hshj]
        clear hshj
        go_loopw [13, 14] (fun r s wr => ∃ q : Nat, q ≤ v ∧ s = .int .i64 q ∧ r = .int .i64 (grow Q S (2 ^ j) q : Nat) ∧ OwnI wr w2.heap.size (some ⟨gf, 0, none⟩) v c' (farM Q S (2 ^ j) v q 0) ∧ Below w2.heap.size w2 wr) (fun _ s _ => v - (intOf s).toNat)
        case atStart => exact ⟨0, Nat.zero_le _, rfl, by rw [HG0.out], hown, hb⟩
        case round =>
          clear hown hb hyo
          obtain ⟨q, hq, rfl, rfl, hown, hb⟩ := hrel
          obtain ⟨wq, rfl⟩ : ∃ wq : World, wq = wr := ⟨_, rfl⟩
          have hyq := (hbk2.up hb).two
          by_cases hqn : q < v
          · have hgl := HGt.out q
            have hg7 := H128.out _ hgl
            have HGl := Lib.hid hgl
            have HGn := Lib.hid (show around Q (grow Q S (2 ^ j) q) &&& S = grow Q S (2 ^ j) (q + 1) from rfl)
            have HFK := Lib.hid (show ∀ u, farK Q S (2 ^ j) u (q + 1) = if farK Q S (2 ^ j) u q < 0 ∧ (grow Q S (2 ^ j) q).testBit u = true then (q : Int) else farK Q S (2 ^ j) u q from fun u => rfl)
            obtain ⟨G, hG⟩ : ∃ G, G = grow Q S (2 ^ j) q := ⟨_, rfl⟩
            rw [← hG] at HGn HFK hg7 HGl ⊢
            clear hG hgl
            go_wp2_with fail
            go_loopw [15] (fun s wr => ∃ u : Nat, u ≤ v ∧ s = .int .i64 u ∧ OwnI wr w2.heap.size (some ⟨gf, 0, none⟩) v c' (farM Q S (2 ^ j) v q u) ∧ Below w2.heap.size w2 wr) (fun s _ => v - (intOf s).toNat)
            case atStart => exact ⟨0, Nat.zero_le _, rfl, hown, hb⟩
            case round =>
              clear hown hb hyq
              obtain ⟨u, hu, rfl, hown, hb⟩ := hrel
              obtain ⟨wu, rfl⟩ : ∃ wu : World, wu = wr := ⟨_, rfl⟩
              have hyu := (hbk2.up hb).two
              by_cases hun : u < v
              · have hcf : wu.cell? ⟨gf, u, none⟩ = some (.int .i64 (farK Q S (2 ^ j) u q)) := by
                  obtain ⟨_, e, _, hc⟩ := hown.ri.at_ (k := u) hun
                  injection e with e
                  subst e
                  rw [add_0_, farM_at hun, if_neg (by omega)] at hc
                  exact hc
                have hfk := HFK.out u
                have hbit := bit_one G u (by omega)
                have hfz := hown.frz_ u
                have Hkeep := Lib.hid (fun e => farM_keep (Q := Q) (S := S) (x := 2 ^ j) (n := v) (k := q) (v := u) e)
                have Hput := Lib.hid (fun (e : farK Q S (2 ^ j) u (q + 1) = (q : Int)) => farM_put (n := v) e hun)
                have hput := hown.put u (q : Int)
                obtain ⟨f, hf⟩ : ∃ f, f = farK Q S (2 ^ j) u q := ⟨_, rfl⟩
                rw [← hf] at hcf hfk Hkeep
                have Hfk := Lib.hid hfk
                clear hf hfk
                rcases Bool.eq_false_or_eq_true (G.testBit u) with e1 | e1
                · rw [e1] at hbit
                  by_cases hf0 : f < 0
                  · have HP := Lib.hid (Hput.out (by rw [Hfk.out, if_pos ⟨hf0, e1⟩]))
                    have df : decide (f < 0) = true := decide_eq_true hf0
                    rw [HP.out] at hput
                    clear e1 hf0
                    go_wp2
                    go_roundw
                    case rel => exact ⟨u + 1, by omega, by go_num, hput.1, hb.grown hput.2 hb.size fun k' e => by injection e with e; have := (hown.block gf rfl).1; omega⟩
                    case measure => simp [intOf]; omega
                  · have HK := Lib.hid (Hkeep.out (by rw [Hfk.out, if_neg fun h => hf0 h.1]))
                    have df : decide (f < 0) = false := decide_eq_false hf0
                    clear e1 hf0 hput
                    go_wp2
                    go_roundw
                    case rel => exact ⟨u + 1, by omega, by go_num, by rw [HK.out]; exact hown, hb⟩
                    case measure => simp [intOf]; omega
                · rw [e1] at hbit
                  have HK := Lib.hid (Hkeep.out (by rw [Hfk.out, if_neg fun h => by rw [e1] at h; exact Bool.false_ne_true h.2]))
                  clear e1 hput
                  go_wp2
                  go_roundw
                  case rel => exact ⟨u + 1, by omega, by go_num, by rw [HK.out]; exact hown, hb⟩
                  case measure => simp [intOf]; omega
              · obtain rfl : u = v := by omega
                rw [farM_next] at hown
                have hXu := hXw2.out.up hb
                have hAr := around_lt h HGl.out
                have hA7 := H128.out _ hAr
                have hand := i64_and7 hA7 hS7
                rw [HGn.out] at hand
                obtain ⟨Ar, hAre⟩ : ∃ Ar, Ar = around Q G := ⟨_, rfl⟩
                rw [← hAre] at hand
                have HAr := Lib.hid hAre.symm
                clear hAre hAr hA7
                go_wp2_with (go_at_call 52; refine (specAround_is hXu h HGl.out HAr.out).mono ?_; rintro e w9 ⟨rfl, hb9⟩)
                go_roundw
                case rel => exact ⟨q + 1, by omega, by go_num, by first | rfl | rw [hand], hown.up hb9, hb.trans (hb9.mono hb.size)⟩
                case measure => simp [intOf]; omega
          · obtain rfl : q = v := by omega
            obtain ⟨af, haf⟩ : ∃ af : Addr, (⟨gf, 0, none⟩ : Addr) = af := ⟨_, rfl⟩
            have Hcf := Lib.hid (show ∀ u, u < q → wq.cell? (af.add u) = some (.int .i64 (farK Q S (2 ^ j) u q)) from fun u hu => by
              obtain ⟨_, e, _, hc⟩ := hown.ri.at_ (k := u) hu
              injection e with e
              subst e
              rw [haf, farM_end hu] at hc
              exact hc)
            have hfb : af.block < wq.heap.size := by rw [← haf]; exact (hown.block gf rfl).2
            rw [haf]
            have hci := Hcf.out i hi
            have hwq : Up w wq := Up.then_ hw2 hb
            have hbq := hbk2.up hb
            have hXq := hXw2.out.up hb
            have hownq := OwnI.made (base := wq.heap.size) wq (Nat.le_refl _)
            have hwwq := hwq.alloc hwq.size (.cells #[] 3)
            clear hown HGt haf
            rcases farK_cases Q S (2 ^ j) i q with ⟨hf, _⟩ | ⟨dd, hdq, hf, _, _⟩
            · have HW := Lib.hid (HFar.out (by rw [hf]; omega))
              rw [hf] at hci
              clear hf
              go_wp2
              go_ret2
              rw [HW.out]
              exact givesIB_none hownq hwq.size hwwq
            · have hli := (HIff.out i q dd hdq).1 hf
              have HW := Lib.hid (HYes.out dd hli)
              rw [hf] at hci
              have df : decide ((dd : Int) < 0) = false := decide_eq_false (by omega)
              have hown1 := one_own (w := wq) (g := wq.heap.size) rfl (Nat.le_refl _) (i : Int)
              have hb1q : Below wq.heap.size wq (wq.alloc (.cells #[.int .i64 (i : Int)] 3)) := by go_grown
              obtain ⟨R, hR⟩ : ∃ R, R = i :: pathL Q S (2 ^ j) dd i := ⟨_, rfl⟩
              have HP0 := Lib.hid (show ([] ++ [i]) ++ pathL Q S (2 ^ j) dd i = R from hR.symm)
              have HWR := Lib.hid (show wayOf Q q S i j = some R by rw [HW.out.1, hR])
              have Hli := Lib.hid hli
              clear hf hR HW hli hownq hwwq
              go_wp2_with fail
              clear hci df
              go_loopg [16] dd (fun g s wr => ∃ (u : Nat) (p : List Nat) (A' : Option Addr) (c2 : Nat), s = .slice A' (p.length + 1) c2 ∧ OwnI wr wq.heap.size A' (p.length + 1) c2 (ints (p ++ [u])) ∧ Below wq.heap.size wq wr ∧ p.length + g = dd ∧ u < q ∧ Hid ((lay Q S (2 ^ j) g).testBit u = true) ∧ Hid ((p ++ [u]) ++ pathL Q S (2 ^ j) g u = R))
              case atStart => exact ⟨i, [], _, _, rfl, hown1, hb1q, by simp, hi, Hli.out, HP0.out⟩
              case round =>
                clear hown1 hb1q
                obtain ⟨u, p, A', c2, rfl, hown, hb3, hpl, huq, hlu, hpt⟩ := hrel
                obtain ⟨wo, rfl⟩ : ∃ wo : World, wo = wr := ⟨_, rfl⟩
                have hcu : ∃ ad, A' = some ad ∧ wo.cell? (ad.add p.length) = some (.int .i64 (u : Int)) := by
                  obtain ⟨ad, e, hc⟩ := hown.ri.nb_at (k := p.length) (by omega)
                  refine ⟨ad, e, ?_⟩
                  rw [hc]
                  simp [nb]
                obtain ⟨ad, rfl, hcu⟩ := hcu
                have hpl7 : p.length ≤ 7 := by omega
                obtain ⟨m1, hm1⟩ : ∃ m1, m1 = p.length + 1 := ⟨_, rfl⟩
                have hwk2 : wrap64 ((m1 : Int) - 1) = (p.length : Int) := by rw [IntWalk.wrap64_in _ ⟨by omega, by omega⟩]; omega
                have hwk : IntKind.i64.wrap ((m1 : Int) - 1) = (p.length : Int) := by rw [IntKind.wrap_i64]; omega
                have hkm : p.length < m1 := by omega
                have hm129 : m1 ≤ 129 := by omega
                have Hm1 := Lib.hid hm1
                rw [← hm1] at hown ⊢
                clear hm1
                by_cases hg0 : gk = 0
                · subst hg0
                  have huj : u = j := by
                    have h1 : (2 ^ j).testBit u = true := hlu.out
                    rw [Nat.testBit_two_pow] at h1
                    exact (of_decide_eq_true h1).symm
                  subst huj
                  have hne : ((u : Int) != (u : Int)) = false := by simp
                  have HE := Lib.hid (show p ++ [u] = R by have := hpt.out; rw [pathL, List.append_nil] at this; exact this)
                  go_wp2
                  go_ret2
                  rw [HWR.out, ← HE.out]
                  exact givesIB_len (by rw [Hm1.out]; simp) hown hwq.size (Up.then_ hwq hb3)
                · obtain ⟨g, rfl⟩ : ∃ g, gk = g + 1 := ⟨gk - 1, by omega⟩
                  have hst := HSt.out g u hlu.out
                  have hne0 := HNe.out g u hlu.out
                  have hgq : g < q := by omega
                  have huj : u ≠ j := fun e => by
                    have h1 := (HBit.out (g + 1) u).1 hlu.out
                    have h2 := h1.2 0 (by omega)
                    have h3 : (2 ^ j).testBit u = false := h2
                    rw [Nat.testBit_two_pow, e] at h3
                    simp at h3
                  have hneI : ((u : Int) != (j : Int)) = true := by rw [bne_iff_ne]; omega
                  have hs7 : nb Q u &&& lay Q S (2 ^ j) g < 128 := Nat.lt_of_le_of_lt Nat.and_le_left (h.nb7 u)
                  have HLeast := Lib.hid (fun x hx => fst1_least _ hs7 x hx)
                  have HBv := Lib.hid (fst1_bit hs7 hne0)
                  have HPn := Lib.hid (show ((p ++ [u]) ++ [fst1 (nb Q u &&& lay Q S (2 ^ j) g)]) ++ pathL Q S (2 ^ j) g (fst1 (nb Q u &&& lay Q S (2 ^ j) g)) = R by
                    have := hpt.out
                    rw [pathL] at this
                    rw [List.append_assoc]; exact this)
                  have HZ := Lib.hid (fun x => HIff.out x q g hgq)
                  have hfu := (HIff.out u q (g + 1) (by omega)).2 hlu.out
                  have Hs1 := Lib.hid hst.1
                  have hvn := hst.2.2
                  have hvu : fst1 (nb Q u &&& lay Q S (2 ^ j) g) ≠ u := fun e => by
                    have h1 := (HBit.out (g + 1) u).1 hlu.out
                    have h2 := h1.2 g (by omega)
                    have h3 := ((HBit.out g _).1 hst.1).1
                    rw [e, h2] at h3; cases h3
                  have HEb := Lib.hid (fun x => (show (nb Q u &&& lay Q S (2 ^ j) g).testBit x = (edge Q u x && (lay Q S (2 ^ j) g).testBit x) from Nat.testBit_and ..))
                  obtain ⟨s, hs⟩ : ∃ s, s = nb Q u &&& lay Q S (2 ^ j) g := ⟨_, rfl⟩
                  rw [← hs] at HLeast HBv HPn Hs1 hvn hvu HEb
                  obtain ⟨vs, hvs⟩ : ∃ vs, vs = fst1 s := ⟨_, rfl⟩
                  rw [← hvs] at HLeast HBv HPn Hs1 hvn hvu
                  have hcf := (hb3.cell (p := af.add u) (by rw [block_of_add]; exact hfb)).trans (Hcf.out u huq)
                  rw [hfu] at hcf
                  have Hfu := Lib.hid hfu
                  clear hst hne0 hs7 hs hvs hfu hlu hpt
                  go_wp2_with fail
                  go_loopw [16, 18] (fun s i wr => ∃ (x : Nat) (l : List Nat) (A2 : Option Addr) (c3 : Nat), x ≤ q ∧ i = .int .i64 x ∧ s = .slice A2 l.length c3 ∧ OwnI wr wq.heap.size A2 l.length c3 (ints l) ∧ Below wq.heap.size wq wr ∧ Hid (x ≤ vs ∧ l = p ++ [u] ∨ vs < x ∧ l = p ++ [u] ++ [vs])) (fun _ i _ => q - (intOf i).toNat)
                  case atStart => exact ⟨0, p ++ [u], _, _, Nat.zero_le _, rfl, by rw [Hm1.out]; simp, hown.cast (by rw [Hm1.out]; simp) rfl, hb3, .inl ⟨Nat.zero_le _, rfl⟩⟩
                  case round =>
                    clear hown hb3 hcu hcf
                    obtain ⟨x, l, A2, c3, hx, rfl, rfl, hown, hb4, hl⟩ := hrel
                    obtain ⟨wi, rfl⟩ : ∃ wi : World, wi = wr := ⟨_, rfl⟩
                    have hyi := (hbq.up hb4).two
                    by_cases hxq : x < q
                    · have hXi := hXq.up hb4
                      have hli := (hbq.up hb4).lt
                      have hcfx := (hb4.cell (p := af.add x) (by rw [block_of_add]; exact hfb)).trans (Hcf.out x hxq)
                      have hcfu := (hb4.cell (p := af.add u) (by rw [block_of_add]; exact hfb)).trans (Hcf.out u huq)
                      rw [Hfu.out] at hcfu
                      have hafi : af.block < wi.heap.size := Nat.lt_of_lt_of_le hfb hb4.size
                      have hz := HZ.out x
                      have hle := HEb.out x
                      have hlen : 0 < l.length ∧ l.length ≤ 9 := by rcases hl.out with ⟨_, e⟩ | ⟨_, e⟩ <;> (rw [e]; simp; omega)
                      have hlast : x ≤ vs ∧ l = p ++ [u] ∧ nb l (l.length - 1) = u ∨ vs < x ∧ l = p ++ [u] ++ [vs] ∧ nb l (l.length - 1) = vs := by
                        rcases hl.out with ⟨h1, e⟩ | ⟨h1, e⟩
                        · exact .inl ⟨h1, e, by rw [e]; simp [nb]⟩
                        · refine .inr ⟨h1, e, ?_⟩
                          have e2 : (p ++ [u] ++ [vs]).length - 1 = (p ++ [u]).length := by simp
                          rw [e, e2]; simp [nb]
                      obtain ⟨ad2, rfl, hcl⟩ := hown.ri.nb_at (k := l.length - 1) (by omega)
                      have had2 : ad2.block < wi.heap.size := by obtain ⟨_, e, h1, _⟩ := hown.ri.addr hlen.1; injection e with e; subst e; exact h1
                      obtain ⟨m2, hm2⟩ : ∃ m2, m2 = l.length := ⟨_, rfl⟩
                      obtain ⟨lk, hlk⟩ : ∃ lk, lk = l.length - 1 := ⟨_, rfl⟩
                      obtain ⟨y, hy⟩ : ∃ y, y = nb l (l.length - 1) := ⟨_, rfl⟩
                      rw [← hy, ← hlk] at hcl
                      rw [← hy] at hlast
                      have wk2 : wrap64 ((m2 : Int) - 1) = (lk : Int) := by rw [IntWalk.wrap64_in _ ⟨by omega, by omega⟩]; omega
                      have wk : IntKind.i64.wrap ((m2 : Int) - 1) = (lk : Int) := by rw [IntKind.wrap_i64]; omega
                      obtain ⟨fu, hfe⟩ : ∃ fu : Int, fu = ((g + 1 : Nat) : Int) := ⟨_, rfl⟩
                      have wf2 : wrap64 (fu - 1) = (g : Int) := by rw [IntWalk.wrap64_in _ ⟨by omega, by omega⟩]; omega
                      have wf : IntKind.i64.wrap (fu - 1) = (g : Int) := by rw [IntKind.wrap_i64]; omega
                      rw [← hfe] at hcfu
                      clear hfe
                      have hkm2 : lk < m2 := by omega
                      have hm29 : m2 ≤ 9 := by omega
                      have Hm2 := Lib.hid hm2
                      rw [← hm2] at hown ⊢
                      obtain ⟨z, hzz⟩ : ∃ z, z = farK Q S (2 ^ j) x q := ⟨_, rfl⟩
                      rw [← hzz] at hcfx hz
                      clear hm2 hlk hy hzz hlen hl
                      rcases Bool.eq_false_or_eq_true (edge Q u x) with e1 | e1
                      · have E1 := Lib.hid (show (nb Q u).testBit x = true from e1)
                        by_cases hzg : z = (g : Int)
                        · have hsx : s.testBit x = true := by rw [hle, e1, hz.1 hzg]; rfl
                          have dz : (z == (g : Int)) = true := by rw [beq_iff_eq]; exact hzg
                          rcases hlast with ⟨h1, h2, h3⟩ | ⟨h1, h2, h3⟩
                          · have hxv : x = vs := by
                              refine Nat.le_antisymm h1 (Nat.not_lt.1 fun hh => ?_)
                              rw [HLeast.out x hh] at hsx; cases hsx
                            subst h3 hxv
                            have HL2 := Lib.hid (show x + 1 ≤ x ∧ l ++ [x] = p ++ [y] ∨ x < x + 1 ∧ l ++ [x] = p ++ [y] ++ [x] from .inr ⟨by omega, by rw [h2]⟩)
                            have dl : ((y : Int) == (y : Int)) = true := by simp
                            subst hzg
                            clear hz hle hsx h1 h2 e1
                            go_wp2
                            have hV0 : Up wi wi.drew := (Up.refl _).drew
                            refine wp_region_calm (S := (fun w' => Up wi w' ∧ (∀ b o, b < wi.heap.size → w'.cell? ⟨b, o, none⟩ = wi.cell? ⟨b, o, none⟩) ∧ w'.cell? (af.add x) = some (.int .i64 (g : Int)) ∧ w'.cell? (af.add y) = some (.int .i64 (fu)) ∧ w'.cell? (ad2.add lk) = some (.int .i64 (y : Nat)))) (by kernel_rfl) (by kernel_rfl) (by exact ⟨hV0, fun _ _ hb => hV0.cell hb, (hV0.cell (by first | assumption | (rw [block_of_add]; assumption))).trans (by assumption), (hV0.cell (by first | assumption | (rw [block_of_add]; assumption))).trans (by assumption), (hV0.cell (by first | assumption | (rw [block_of_add]; assumption))).trans (by assumption)⟩) ?_
                            repeat (first | (refine CalmSeq.cons undef (Calm.off (by rfl)) ?_; (try simp only [Act.put, List.setIfInBounds_toArray, List.set_cons_zero, List.set_cons_succ])) | (refine CalmSeq.cons ?_ (Calm.val (by rfl) ?_) ?_; rotate_left; (intro wC hSw; (try dsimp only at hSw); go_simp; done); (try simp only [Act.put, List.setIfInBounds_toArray, List.set_cons_zero, List.set_cons_succ])) | (refine CalmSeq.cons ?_ (Calm.val (by rfl) ?_) ?_; rotate_left; (intro wC hSw; (try dsimp only at hSw); go_simp; with_reducible rfl); (try simp only [Act.put, List.setIfInBounds_toArray, List.set_cons_zero, List.set_cons_succ])) | ((refine CalmSeq.cons ?_ (Calm.call (f := ?_) (args := ?_) (by rfl) ?_ (fun wC hSw => ?_)) ?_; rotate_left 3; (intro wC; go_simp; (refine ⟨?_, ?_⟩ <;> with_reducible rfl)); (go_at_call 53; (with_reducible refine (l2Edge_is (hXi.up hSw.1) h huq hxq E1.out).mono ?_); rintro e wD ⟨rfl, hbD⟩; apply And.intro; (with_reducible rfl); (have hUD := Up.then_ hSw.1 hbD; exact ⟨hUD, fun _ _ hb => hUD.cell hb, (hUD.cell (by first | assumption | (rw [block_of_add]; assumption))).trans (by assumption), (hUD.cell (by first | assumption | (rw [block_of_add]; assumption))).trans (by assumption), (hUD.cell (by first | assumption | (rw [block_of_add]; assumption))).trans (by assumption)⟩))); (try simp only [Act.put, List.setIfInBounds_toArray, List.set_cons_zero, List.set_cons_succ])))
                            intro w5 hS5
                            have hU5 : Up wi w5 := hS5.1
                            clear hS5 hV0
                            have hown5 := hown.up hU5
                            have hb5 : Below wq.heap.size wq w5 := hb4.trans (hU5.mono hb4.size)
                            have hsz5 := hb5.size
                            have hcell := (Blk.new w5 3 #[.int .i64 (x : Int)]).one
                            go_wp2_with (at_builtin; refine wpList_push rfl (.tmp 168) (.tmp 170) rfl (x : Int) rfl (hown5.alloc _) ⟨w5.heap.size, 0, none⟩ rfl hcell (by omega) (by simp; omega) ?_; intro A7 c7 w7 hown7 hb7 hg7)
                            go_roundw
                            case rel => exact ⟨x + 1, l ++ [x], A7, c7, by omega, by go_num, by rw [← push_len, ← Hm2.out], hown7.cast (by rw [Hm2.out]; exact push_len) (by rw [ints_snoc]), (hb5.alloc hsz5 _).trans hb7, HL2.out⟩
                            case measure => simp [intOf]; omega
                          · have HL2 := Lib.hid (show x + 1 ≤ vs ∧ l = p ++ [u] ∨ vs < x + 1 ∧ l = p ++ [u] ++ [vs] from .inr ⟨by omega, h2⟩)
                            have dl : ((u : Int) == (y : Int)) = false := by rw [beq_eq_false_iff_ne]; omega
                            clear hz hle hsx h1 h2 h3 e1 hzg
                            go_wp2
                            have hV0 : Up wi wi.drew := (Up.refl _).drew
                            refine wp_region_calm (S := (fun w' => Up wi w' ∧ (∀ b o, b < wi.heap.size → w'.cell? ⟨b, o, none⟩ = wi.cell? ⟨b, o, none⟩) ∧ w'.cell? (af.add x) = some (.int .i64 (z)) ∧ w'.cell? (af.add u) = some (.int .i64 (fu)) ∧ w'.cell? (ad2.add lk) = some (.int .i64 (y : Nat)))) (by kernel_rfl) (by kernel_rfl) (by exact ⟨hV0, fun _ _ hb => hV0.cell hb, (hV0.cell (by first | assumption | (rw [block_of_add]; assumption))).trans (by assumption), (hV0.cell (by first | assumption | (rw [block_of_add]; assumption))).trans (by assumption), (hV0.cell (by first | assumption | (rw [block_of_add]; assumption))).trans (by assumption)⟩) ?_
                            repeat (first | (refine CalmSeq.cons undef (Calm.off (by rfl)) ?_; (try simp only [Act.put, List.setIfInBounds_toArray, List.set_cons_zero, List.set_cons_succ])) | (refine CalmSeq.cons ?_ (Calm.val (by rfl) ?_) ?_; rotate_left; (intro wC hSw; (try dsimp only at hSw); go_simp; done); (try simp only [Act.put, List.setIfInBounds_toArray, List.set_cons_zero, List.set_cons_succ])) | (refine CalmSeq.cons ?_ (Calm.val (by rfl) ?_) ?_; rotate_left; (intro wC hSw; (try dsimp only at hSw); go_simp; with_reducible rfl); (try simp only [Act.put, List.setIfInBounds_toArray, List.set_cons_zero, List.set_cons_succ])) | ((refine CalmSeq.cons ?_ (Calm.call (f := ?_) (args := ?_) (by rfl) ?_ (fun wC hSw => ?_)) ?_; rotate_left 3; (intro wC; go_simp; (refine ⟨?_, ?_⟩ <;> with_reducible rfl)); (go_at_call 53; (with_reducible refine (l2Edge_is (hXi.up hSw.1) h huq hxq E1.out).mono ?_); rintro e wD ⟨rfl, hbD⟩; apply And.intro; (with_reducible rfl); (have hUD := Up.then_ hSw.1 hbD; exact ⟨hUD, fun _ _ hb => hUD.cell hb, (hUD.cell (by first | assumption | (rw [block_of_add]; assumption))).trans (by assumption), (hUD.cell (by first | assumption | (rw [block_of_add]; assumption))).trans (by assumption), (hUD.cell (by first | assumption | (rw [block_of_add]; assumption))).trans (by assumption)⟩))); (try simp only [Act.put, List.setIfInBounds_toArray, List.set_cons_zero, List.set_cons_succ])))
                            intro w5 hS5
                            have hU5 : Up wi w5 := hS5.1
                            clear hS5 hV0
                            go_wp2
                            go_roundw
                            case rel => exact ⟨x + 1, l, some ad2, c3, by omega, by go_num, by rw [← Hm2.out], (hown.up hU5).cast Hm2.out rfl, hb4.trans (hU5.mono hb4.size), HL2.out⟩
                            case measure => simp [intOf]; omega
                        · have HL2 := Lib.hid (show x + 1 ≤ vs ∧ l = p ++ [u] ∨ vs < x + 1 ∧ l = p ++ [u] ++ [vs] from by
                            rcases hlast with ⟨h1, h2, _⟩ | ⟨h1, h2, _⟩
                            · refine .inl ⟨Nat.lt_of_le_of_ne h1 fun e => ?_, h2⟩
                              have h4 := HBv.out
                              rw [← e, hle, e1, Bool.true_and] at h4
                              exact hzg (hz.2 h4)
                            · exact .inr ⟨by omega, h2⟩)
                          have dz : (z == (g : Int)) = false := by rw [beq_eq_false_iff_ne]; exact hzg
                          clear hz hle e1 hlast
                          go_wp2
                          have hV0 : Up wi wi.drew := (Up.refl _).drew
                          refine wp_region_calm (S := (fun w' => Up wi w' ∧ (∀ b o, b < wi.heap.size → w'.cell? ⟨b, o, none⟩ = wi.cell? ⟨b, o, none⟩) ∧ w'.cell? (af.add x) = some (.int .i64 (z)) ∧ w'.cell? (af.add u) = some (.int .i64 (fu)) ∧ w'.cell? (ad2.add lk) = some (.int .i64 (y : Nat)))) (by kernel_rfl) (by kernel_rfl) (by exact ⟨hV0, fun _ _ hb => hV0.cell hb, (hV0.cell (by first | assumption | (rw [block_of_add]; assumption))).trans (by assumption), (hV0.cell (by first | assumption | (rw [block_of_add]; assumption))).trans (by assumption), (hV0.cell (by first | assumption | (rw [block_of_add]; assumption))).trans (by assumption)⟩) ?_
                          repeat (first | (refine CalmSeq.cons undef (Calm.off (by rfl)) ?_; (try simp only [Act.put, List.setIfInBounds_toArray, List.set_cons_zero, List.set_cons_succ])) | (refine CalmSeq.cons ?_ (Calm.val (by rfl) ?_) ?_; rotate_left; (intro wC hSw; (try dsimp only at hSw); go_simp; done); (try simp only [Act.put, List.setIfInBounds_toArray, List.set_cons_zero, List.set_cons_succ])) | (refine CalmSeq.cons ?_ (Calm.val (by rfl) ?_) ?_; rotate_left; (intro wC hSw; (try dsimp only at hSw); go_simp; with_reducible rfl); (try simp only [Act.put, List.setIfInBounds_toArray, List.set_cons_zero, List.set_cons_succ])) | ((refine CalmSeq.cons ?_ (Calm.call (f := ?_) (args := ?_) (by rfl) ?_ (fun wC hSw => ?_)) ?_; rotate_left 3; (intro wC; go_simp; (refine ⟨?_, ?_⟩ <;> with_reducible rfl)); (go_at_call 53; (with_reducible refine (l2Edge_is (hXi.up hSw.1) h huq hxq E1.out).mono ?_); rintro e wD ⟨rfl, hbD⟩; apply And.intro; (with_reducible rfl); (have hUD := Up.then_ hSw.1 hbD; exact ⟨hUD, fun _ _ hb => hUD.cell hb, (hUD.cell (by first | assumption | (rw [block_of_add]; assumption))).trans (by assumption), (hUD.cell (by first | assumption | (rw [block_of_add]; assumption))).trans (by assumption), (hUD.cell (by first | assumption | (rw [block_of_add]; assumption))).trans (by assumption)⟩))); (try simp only [Act.put, List.setIfInBounds_toArray, List.set_cons_zero, List.set_cons_succ])))
                          intro w5 hS5
                          have hU5 : Up wi w5 := hS5.1
                          clear hS5 hV0
                          go_wp2
                          go_roundw
                          case rel => exact ⟨x + 1, l, some ad2, c3, by omega, by go_num, by rw [← Hm2.out], (hown.up hU5).cast Hm2.out rfl, hb4.trans (hU5.mono hb4.size), HL2.out⟩
                          case measure => simp [intOf]; omega
                      · have E1 := Lib.hid (show (nb Q u).testBit x = false from e1)
                        have HL2 := Lib.hid (show x + 1 ≤ vs ∧ l = p ++ [u] ∨ vs < x + 1 ∧ l = p ++ [u] ++ [vs] from by
                          rcases hlast with ⟨h1, h2, _⟩ | ⟨h1, h2, _⟩
                          · refine .inl ⟨Nat.lt_of_le_of_ne h1 fun e => ?_, h2⟩
                            have h4 := HBv.out
                            rw [← e, hle, e1, Bool.false_and] at h4
                            cases h4
                          · exact .inr ⟨by omega, h2⟩)
                        clear hz hle e1 hlast
                        go_wp2
                        have hV0 : Up wi wi.drew := (Up.refl _).drew
                        refine wp_region_calm (S := (fun w' => Up wi w' ∧ (∀ b o, b < wi.heap.size → w'.cell? ⟨b, o, none⟩ = wi.cell? ⟨b, o, none⟩) ∧ w'.cell? (af.add x) = some (.int .i64 (z)) ∧ w'.cell? (af.add u) = some (.int .i64 (fu)) ∧ w'.cell? (ad2.add lk) = some (.int .i64 (y : Nat)))) (by kernel_rfl) (by kernel_rfl) (by exact ⟨hV0, fun _ _ hb => hV0.cell hb, (hV0.cell (by first | assumption | (rw [block_of_add]; assumption))).trans (by assumption), (hV0.cell (by first | assumption | (rw [block_of_add]; assumption))).trans (by assumption), (hV0.cell (by first | assumption | (rw [block_of_add]; assumption))).trans (by assumption)⟩) ?_
                        repeat (first | (refine CalmSeq.cons undef (Calm.off (by rfl)) ?_; (try simp only [Act.put, List.setIfInBounds_toArray, List.set_cons_zero, List.set_cons_succ])) | (refine CalmSeq.cons ?_ (Calm.val (by rfl) ?_) ?_; rotate_left; (intro wC hSw; (try dsimp only at hSw); go_simp; done); (try simp only [Act.put, List.setIfInBounds_toArray, List.set_cons_zero, List.set_cons_succ])) | (refine CalmSeq.cons ?_ (Calm.val (by rfl) ?_) ?_; rotate_left; (intro wC hSw; (try dsimp only at hSw); go_simp; with_reducible rfl); (try simp only [Act.put, List.setIfInBounds_toArray, List.set_cons_zero, List.set_cons_succ])) | ((refine CalmSeq.cons ?_ (Calm.call (f := ?_) (args := ?_) (by rfl) ?_ (fun wC hSw => ?_)) ?_; rotate_left 3; (intro wC; go_simp; (refine ⟨?_, ?_⟩ <;> with_reducible rfl)); (go_at_call 53; (with_reducible refine (l2Edge_is (hXi.up hSw.1) h huq hxq E1.out).mono ?_); rintro e wD ⟨rfl, hbD⟩; apply And.intro; (with_reducible rfl); (have hUD := Up.then_ hSw.1 hbD; exact ⟨hUD, fun _ _ hb => hUD.cell hb, (hUD.cell (by first | assumption | (rw [block_of_add]; assumption))).trans (by assumption), (hUD.cell (by first | assumption | (rw [block_of_add]; assumption))).trans (by assumption), (hUD.cell (by first | assumption | (rw [block_of_add]; assumption))).trans (by assumption)⟩))); (try simp only [Act.put, List.setIfInBounds_toArray, List.set_cons_zero, List.set_cons_succ])))
                        intro w5 hS5
                        have hU5 : Up wi w5 := hS5.1
                        clear hS5 hV0
                        go_wp2
                        go_roundw
                        case rel => exact ⟨x + 1, l, some ad2, c3, by omega, by go_num, by rw [← Hm2.out], (hown.up hU5).cast Hm2.out rfl, hb4.trans (hU5.mono hb4.size), HL2.out⟩
                        case measure => simp [intOf]; omega
                    · obtain rfl : x = q := by omega
                      have hl2 : l = p ++ [u] ++ [vs] := (hl.out.resolve_left fun h => by omega).2
                      subst hl2
                      go_wp2
                      go_roundg g
                      case measure => omega
                      case rel => exact ⟨vs, p ++ [u], A2, c3, by simp, hown.cast (by simp) rfl, hb4, by simp; omega, hvn, Hs1.out, HPn.out⟩
end Go.Proofs.Ytlcmfangecbdgaa
